/- The document's answer for package btree: under, put. -/

import Derived.Test.YtokbhiokcoldbaaDoorBq02
import Derived.Test.YtokbhiokcoldbaaDoorBq03
import Derived.Test.YtokbhiokcoldbaaDoorBq06
import Derived.Test.YtokbhiokcoldbaaDoorBq16
namespace Go.Proofs.YtokbhiokcoldbaaDoor
open Go.RowKit

namespace Bt
theorem und_take {l : List Int} {i : Nat} (x : Int) (h : i < l.length) : und (l.take (i + 1)) x = if nth l i < x then und (l.take i) x + 1 else und (l.take i) x := by
  unfold und
  rw [List.take_add_one, List.getElem?_eq_getElem h, List.filter_append, List.length_append]
  have e : nth l i = l[i] := by simp [nth, List.getD, h]
  rw [e]
  by_cases hx : l[i] < x
  · rw [if_pos hx]; simp [hx]
  · rw [if_neg hx]; simp [hx]
theorem und_le (l : List Int) (x : Int) : und l x ≤ l.length := List.length_filter_le _ _
end Bt
set_option maxHeartbeats 1000000 in
theorem bq_under (w : World) (G : Nat → Prop) (v : Value) (l : List Int) (x : Int) (h : RowH G w v l) (hl : l.length ≤ 100000) :
    Calls Tryd.prog 60 #[v, .int .i64 x] w fun e w' => e = .returned (.int .i64 (Bt.und l x : Nat)) ∧ w' = w := by
  obtain ⟨A, g, o, c, rfl, hm0, hA, hc⟩ := h.form
  have HA := Lib.hid hA
  have HC := Lib.hid (hc w (Fr.refl _ _))
  have HUT := Lib.hid (fun i (hi : i < l.length) => Bt.und_take x hi)
  have HUL := Lib.hid (fun i => Bt.und_le (l.take i) x)
  clear hA hc h
  go_enter Tryd.func60, Tryd.ntmps60
  go_wp2
  go_loop [5, 6] (fun nv iv => ∃ k : Nat, k ≤ l.length ∧ iv = .int .i64 k ∧ nv = .int .i64 (Bt.und (l.take k) x : Nat)) (fun _ i => l.length - (intOf i).toNat)
  case atStart => exact ⟨0, Nat.zero_le _, rfl, rfl⟩
  case round =>
    obtain ⟨k, hk, rfl, rfl⟩ := hrel
    by_cases hlt : k < l.length
    · obtain rfl := HA.out (by omega)
      have q := HC.out k hlt
      have kI : (k : Int) < l.length := by omega
      have k0 : (0 : Int) ≤ k := by omega
      have hut := HUT.out k hlt
      have hul := HUL.out k
      have htl : (l.take k).length ≤ l.length := by rw [List.length_take]; omega
      by_cases he : nth l k < x
      · have HP := Lib.hid (hut.trans (if_pos he))
        generalize nth l k = y at *
        generalize Bt.und (l.take k) x = n at *
        clear hut
        go_wp2
        go_round
        case rel => exact ⟨k + 1, by omega, by go_num, by rw [HP.out]; go_num⟩
        case measure => (simp [intOf]; try omega)
      · have HP := Lib.hid (hut.trans (if_neg he))
        generalize nth l k = y at *
        generalize Bt.und (l.take k) x = n at *
        clear hut
        go_wp2
        go_round
        case rel => exact ⟨k + 1, by omega, by go_num, by rw [HP.out]⟩
        case measure => (simp [intOf]; try omega)
    · obtain rfl : k = l.length := by omega
      have kI : ¬ ((l.length : Nat) : Int) < l.length := by omega
      rw [List.take_length]
      obtain ⟨n, hn⟩ : ∃ n, Bt.und l x = n := ⟨_, rfl⟩
      rw [hn]
      have HNN := Lib.hid hn
      clear hn hlt
      go_wp2
      go_ret
      exact ⟨by rw [HNN.out]; rfl, rfl⟩
theorem Sl.cut {w : World} {A : Option Addr} {n c g : Nat} {l : List Int} (h : Sl w (.slice A n c) g l) {m : Nat} (hm : m ≤ l.length) : Sl w (.slice A m c) g (l.take m) := by
  rcases h with ⟨rfl, A', c', e⟩ | ⟨o, c', e, h1, h2, h3⟩
  · injection e with e1 e2 e3
    have : m = 0 := by simpa using hm
    subst this
    exact .inl ⟨by simp, A, c, rfl⟩
  · injection e with e1 e2 e3
    subst e1 e2 e3
    refine .inr ⟨o, c, by rw [List.length_take, Nat.min_eq_left hm], by rw [List.length_take]; omega, h2, fun i hi => ?_⟩
    have hi' : i < m ∧ i < l.length := by rw [List.length_take] at hi; omega
    rw [h3 i hi'.2]
    simp [nth, List.getD, hi'.1, hi'.2]
theorem Sl.rest {w : World} {g o n c : Nat} {l : List Int} (h : Sl w (.slice (some ⟨g, o, none⟩) n c) g l) {m : Nat} (hm : m ≤ l.length) : Sl w (.slice (some ⟨g, o + m, none⟩) (n - m) (c - m)) g (l.drop m) := by
  rcases h with ⟨rfl, A', c', e⟩ | ⟨o', c', e, h1, h2, h3⟩
  · injection e with e1 e2 e3
    exact .inl ⟨by simp, _, _, by rw [e2, Nat.zero_sub]⟩
  · injection e with e1 e2 e3
    injection e1 with e1
    injection e1 with _ e1 _
    subst e1 e2 e3
    refine .inr ⟨o + m, c - m, by rw [List.length_drop], by rw [List.length_drop]; omega, by omega, fun i hi => ?_⟩
    have hi' : m + i < l.length := by rw [List.length_drop] at hi; omega
    have := h3 (m + i) hi'
    rw [Nat.add_assoc, this]
    simp [nth, List.getD, hi']

set_option maxRecDepth 100000 in
set_option maxHeartbeats 2000000 in
theorem bq_put (w : World) (G : Nat → Prop) (v : Value) (l : List Int) (n : Nat) (x : Int) (h : RowH G w v l) (hn : n ≤ l.length) (hl : l.length ≤ 100000) :
    Calls Tryd.prog 61 #[v, .int .i64 n, .int .i64 x] w (NewRow (Bt.ins l n x) w) := by
  obtain ⟨g, -, hs⟩ := h
  have HS := Lib.hid hs
  obtain ⟨A, o, c, rfl, -, hA, -⟩ := hs.form
  have hcap : l.length ≤ c := by
    rcases hs with ⟨rfl, _⟩ | ⟨o', c', e, h1, -⟩
    · simp
    · injection e with _ _ e3
      omega
  have n0 : (0 : Int) ≤ n := by omega
  have n1 : (n : Int) ≤ l.length := by omega
  have n2 : (n : Int) ≤ c := by omega
  have n3 : (l.length : Int) ≤ c := by omega
  clear hs
  go_enter Tryd.func61, Tryd.ntmps61
  by_cases h0 : 0 < l.length
  · obtain rfl := hA h0
    have HS1 := Lib.hid (HS.out.cut hn)
    by_cases hcn : c = n
    · subst hcn
      have HS2 : Hid (∀ W : World, ∀ A' m k, m = 0 → Sl W (.slice A' m k) g (l.drop c)) := fun W A' m k hm => .inl ⟨List.drop_of_length_le (by omega), A', k, by rw [hm]⟩
      go_wp2_with (first
        | (at_builtin; refine wpList_spread_int Tryd.intT rfl _ _ rfl w.heap.size _ _ [] (l.take c) g rfl (Own.nil w _ _) rfl HS1.out (by simp; omega) (Nat.le_refl _) ?_; intro v' w1 h1 _ h3; rw [List.nil_append] at h1; have H1 := Lib.hid h1; obtain ⟨A1, c1, hv1⟩ := h1.form0; rw [List.length_take, Nat.min_eq_left hn] at hv1; subst hv1; have HB1 := Lib.hid h3; clear h1 h3)
        | (have h' := H1; clear h'; at_builtin; refine wpList_push_int (wr := w1) Tryd.intT rfl _ _ rfl w.heap.size _ (l.take c) rfl H1.out rfl (by rw [List.length_take]; omega) HB1.out.size ?_; intro v' w2 h1 _ h3; obtain ⟨A2, c2, hv2⟩ := h1.form0; rw [show (l.take c ++ [x]).length = c + 1 by rw [List.length_append, List.length_take]; simp; omega] at hv2; subst hv2; have H2 := Lib.hid h1; have HB2 := Lib.hid ((Fr.of_below HB1.out).below_step h3 (Nat.le_refl _)); clear h1 h3)
        | (have h' := H2; clear h'; at_builtin; refine wpList_spread_int Tryd.intT rfl _ _ rfl w.heap.size _ _ (l.take c ++ [x]) (l.drop c) g rfl H2.out rfl (HS2.out w2 _ _ _ (by omega)) (by rw [List.length_append, List.length_take, List.length_drop]; simp; omega) HB2.out.size ?_; intro v' w3 h1 _ h3; have H3 := Lib.hid h1; have HB3 := Lib.hid (HB2.out.below_step h3 (Nat.le_refl _)); clear h1 h3))
      go_ret
      rw [show l.take c ++ [x] ++ l.drop c = Bt.ins l c x by unfold Bt.ins; simp] at H3
      exact H3.out.newRow (Nat.le_refl _) HB3.out
    · have HS2 := Lib.hid (fun W (hW : Fr [] w W) => (HS.out.fr hW (by simp)).rest hn)
      have n4 : ¬ (c : Int) - n = 0 := by omega
      have n5 : ¬ c - n = 0 := by omega
      have n6 : n < c := by omega
      go_wp2_with (first
        | (at_builtin; refine wpList_spread_int Tryd.intT rfl _ _ rfl w.heap.size _ _ [] (l.take n) g rfl (Own.nil w _ _) rfl HS1.out (by simp; omega) (Nat.le_refl _) ?_; intro v' w1 h1 _ h3; rw [List.nil_append] at h1; have H1 := Lib.hid h1; obtain ⟨A1, c1, hv1⟩ := h1.form0; rw [List.length_take, Nat.min_eq_left hn] at hv1; subst hv1; have HB1 := Lib.hid h3; clear h1 h3)
        | (have h' := H1; clear h'; at_builtin; refine wpList_push_int (wr := w1) Tryd.intT rfl _ _ rfl w.heap.size _ (l.take n) rfl H1.out rfl (by rw [List.length_take]; omega) HB1.out.size ?_; intro v' w2 h1 _ h3; obtain ⟨A2, c2, hv2⟩ := h1.form0; rw [show (l.take n ++ [x]).length = n + 1 by rw [List.length_append, List.length_take]; simp; omega] at hv2; subst hv2; have H2 := Lib.hid h1; have HB2 := Lib.hid ((Fr.of_below HB1.out).below_step h3 (Nat.le_refl _)); clear h1 h3)
        | (have h' := H2; clear h'; at_builtin; refine wpList_spread_int Tryd.intT rfl _ _ rfl w.heap.size _ _ (l.take n ++ [x]) (l.drop n) g rfl H2.out rfl (HS2.out w2 HB2.out) (by rw [List.length_append, List.length_take, List.length_drop]; simp; omega) HB2.out.size ?_; intro v' w3 h1 _ h3; have H3 := Lib.hid h1; have HB3 := Lib.hid (HB2.out.below_step h3 (Nat.le_refl _)); clear h1 h3))
      go_ret
      rw [show l.take n ++ [x] ++ l.drop n = Bt.ins l n x by unfold Bt.ins; simp] at H3
      exact H3.out.newRow (Nat.le_refl _) HB3.out
  · obtain rfl : l = [] := List.eq_nil_of_length_eq_zero (by omega)
    obtain rfl : n = 0 := by simpa using hn
    have HS1 : Hid (∀ W : World, ∀ A' m k, m = 0 → Sl W (.slice A' m k) g []) := fun W A' m k hm => .inl ⟨rfl, A', k, by rw [hm]⟩
    clear hA h0
    cases A with
    | none =>
      go_wp2_with (first
        | (at_builtin; refine wpList_spread_int Tryd.intT rfl _ _ rfl w.heap.size _ _ [] [] g rfl (Own.nil w _ _) rfl (HS1.out w _ _ _ rfl) (by simp) (Nat.le_refl _) ?_; intro v' w1 h1 _ h3; rw [List.nil_append] at h1; have H1 := Lib.hid h1; obtain ⟨A1, c1, hv1⟩ := h1.form0; subst hv1; have HB1 := Lib.hid h3; clear h1 h3)
        | (have h' := H1; clear h'; at_builtin; refine wpList_push_int (wr := w1) Tryd.intT rfl _ _ rfl w.heap.size _ [] rfl H1.out rfl (by simp) HB1.out.size ?_; intro v' w2 h1 _ h3; obtain ⟨A2, c2, hv2⟩ := h1.form0; subst hv2; have H2 := Lib.hid h1; have HB2 := Lib.hid ((Fr.of_below HB1.out).below_step h3 (Nat.le_refl _)); clear h1 h3)
        | (have h' := H2; clear h'; at_builtin; refine wpList_spread_int Tryd.intT rfl _ _ rfl w.heap.size _ _ [x] [] g rfl H2.out rfl (HS1.out w2 _ _ _ rfl) (by simp) HB2.out.size ?_; intro v' w3 h1 _ h3; have H3 := Lib.hid h1; have HB3 := Lib.hid (HB2.out.below_step h3 (Nat.le_refl _)); clear h1 h3))
      go_ret
      exact H3.out.newRow (Nat.le_refl _) HB3.out
    | some ad =>
      go_wp2_with (first
        | (at_builtin; refine wpList_spread_int Tryd.intT rfl _ _ rfl w.heap.size _ _ [] [] g rfl (Own.nil w _ _) rfl (HS1.out w _ _ _ rfl) (by simp) (Nat.le_refl _) ?_; intro v' w1 h1 _ h3; rw [List.nil_append] at h1; have H1 := Lib.hid h1; obtain ⟨A1, c1, hv1⟩ := h1.form0; subst hv1; have HB1 := Lib.hid h3; clear h1 h3)
        | (have h' := H1; clear h'; at_builtin; refine wpList_push_int (wr := w1) Tryd.intT rfl _ _ rfl w.heap.size _ [] rfl H1.out rfl (by simp) HB1.out.size ?_; intro v' w2 h1 _ h3; obtain ⟨A2, c2, hv2⟩ := h1.form0; subst hv2; have H2 := Lib.hid h1; have HB2 := Lib.hid ((Fr.of_below HB1.out).below_step h3 (Nat.le_refl _)); clear h1 h3)
        | (have h' := H2; clear h'; at_builtin; refine wpList_spread_int Tryd.intT rfl _ _ rfl w.heap.size _ _ [x] [] g rfl H2.out rfl (HS1.out w2 _ _ _ rfl) (by simp) HB2.out.size ?_; intro v' w3 h1 _ h3; have H3 := Lib.hid h1; have HB3 := Lib.hid (HB2.out.below_step h3 (Nat.le_refl _)); clear h1 h3))
      all_goals
        go_ret
        exact H3.out.newRow (Nat.le_refl _) HB3.out
end Go.Proofs.YtokbhiokcoldbaaDoor
/- The document's answer for package btree: way. -/
namespace Go.Proofs.YtokbhiokcoldbaaDoor
open Go.RowKit

def sliceLen : Value → Nat
  | .slice _ n _ => n
  | _ => 0
namespace Bt
theorem path_len (ns : List Nn) (x : Int) : ∀ (d i : Nat), (path ns x d i).length = d + 1
  | 0, _ => rfl
  | d + 1, i => by
    show (i :: path ns x d _).length = _
    rw [List.length_cons, path_len ns x d]
/-- A leaf has no kids; another node has the one that the way takes. -/
theorem rep_leaf {ns : List Nn} {i : Nat} {t : T 0} {F : List Nat} (h : Rep 0 ns i t F) : (nd ns i).2 = [] := by
  rw [nd_of h.1]
theorem rep_kid {d lo : Nat} {ns : List Nn} {i : Nat} {t : T (d + 1)} {F : List Nat} (h : Rep (d + 1) ns i t F) (hk : Ok (d + 1) lo t) (x : Int) : und (nd ns i).1 x < (nd ns i).2.length ∧ ∃ (j : Nat) (s : T d) (F' : List Nat), nth (nd ns i).2 (und (nd ns i).1 x) = (j : Int) ∧ Rep d ns j s F' ∧ Ok d 2 s ∧ path ns x (d + 1) i = i :: path ns x d j := by
  obtain ⟨K, h1, h2, h3, -⟩ := h
  have hn : nd ns i = (t.1, K.map (fun p => (p.1 : Int))) := nd_of h1
  have hl : K.length = t.1.length + 1 := by have := hk.2.1; rw [h2, List.length_map] at this; exact this
  have hu : und t.1 x < K.length := by have := List.length_filter_le (fun y => decide (y < x)) t.1; unfold und; omega
  have hp : K[und t.1 x] ∈ K := List.getElem_mem hu
  refine ⟨by rw [hn]; simpa using hu, K[und t.1 x].1, K[und t.1 x].2.1, K[und t.1 x].2.2, ?_, h3 _ hp, hk.2.2 _ (by rw [h2]; exact List.mem_map.2 ⟨_, hp, rfl⟩), ?_⟩
  · rw [hn]
    simp [nth, List.getD, hu]
  · show i :: path ns x d ((nd ns i).2.getD (und (nd ns i).1 x) 0).toNat = _
    rw [hn]
    simp [List.getD, hu]
end Bt
theorem own_int1 (w : World) (t : Nat) (y : Int) : Own (w.alloc (.cells #[.int .i64 y] t)) w.heap.size t (.slice (some ⟨w.heap.size, 0, none⟩) 1 1) [y] :=
  ⟨by simp, .inr ⟨w.heap.size, 1, #[.int .i64 y], rfl, Nat.le_refl _, heap_alloc_new w _, by simp, by decide, by simp, by simp⟩⟩
/-- On the way down: the node that stands next, what is gathered. -/
structure BqP (WB wr : World) (ns : List Bt.Nn) (x : Int) (full : List Nat) (ov : Value) (r lo i : Nat) (t : Bt.T r) (F : List Nat) (pre : List Nat) : Prop where
  rep : Bt.Rep r ns i t F
  ok : Bt.Ok r lo t
  eq : pre ++ Bt.path ns x r i = full
  own : Own wr WB.heap.size 3 ov ((pre ++ [i]).map (fun i : Nat => (i : Int)))
  fr : Fr [] WB wr
set_option maxRecDepth 100000 in
set_option maxHeartbeats 4000000 in
theorem bq_way (w : World) (G : Nat → Prop) (v : Value) (q : Bt.Qt) (d lo : Nat) (t : Bt.T d) (F : List Nat) (x : Int) (hv : BqV G w v q) (hr : Bt.Rep d q.ns q.root t F) (hk : Bt.Ok d lo t) (hd : d ≤ 10) (hl : q.ns.length ≤ 1000) (hks : ∀ i, (Bt.nd q.ns i).1.length ≤ 1000) :
    Calls Tryd.prog 59 #[v, .int .i64 x] w (NewRow ((Bt.path q.ns x d q.root).map (fun i : Nat => (i : Int))) w) := by
  obtain ⟨g, c, rfl, hT⟩ := hv.form
  have HX0 := Lib.hid (heap_alloc_new w (.cells #[.slice (some ⟨g, 0, none⟩) q.ns.length c, .int .i64 (q.root : Int)] 47))
  have HF0 : Hid (Fr [] w (w.alloc (.cells #[.slice (some ⟨g, 0, none⟩) q.ns.length c, .int .i64 (q.root : Int)] 47))) := (Fr.refl _ _).alloc _
  have HT := Lib.hid (hT.step HF0.out)
  have HPL := Lib.hid (Bt.path_len q.ns x d q.root)
  obtain ⟨full, hfull⟩ : ∃ z, Bt.path q.ns x d q.root = z := ⟨_, rfl⟩
  rw [hfull] at HPL ⊢
  have HP0 := Lib.hid (And.intro hr (And.intro hk hfull))
  have hlt0 : q.root < q.ns.length := hr.lt _ hr.self
  clear hv hT hr hk hfull
  go_enter Tryd.func59, Tryd.ntmps59
  go_upto_region 1 with (fail)
  revert HX0 HF0 HT
  generalize w.alloc (.cells #[.slice (some ⟨g, 0, none⟩) q.ns.length c, .int .i64 (q.root : Int)] 47) = WB
  generalize w.heap.size = X
  intro HX0 HF0 HT
  have HXC : Hid (∀ W, Fr [] WB W → W.cell? ⟨X, 0, none⟩ = some (.slice (some ⟨g, 0, none⟩) q.ns.length c) ∧ W.cell? ⟨X, 1, none⟩ = some (.int .i64 (q.root : Int))) := fun W hW => by
    have := hW.get HX0.out (by simp)
    constructor <;> rw [cell_of_row _ _ _ _ _ _ this] <;> rfl
  obtain ⟨vs, -, hS⟩ := HT.out.op
  have HS := Lib.hid hS
  obtain ⟨b0, b1⟩ := HXC.out WB (Fr.refl _ _)
  have hszX : X < WB.heap.size := lt_of_heap HX0.out
  clear hS
  have HI : Hid (BqP WB (WB.alloc (.cells #[.int .i64 (q.root : Int)] 3)) q.ns x full (.slice (some ⟨WB.heap.size, 0, none⟩) 1 1) d lo q.root t F []) := ⟨HP0.out.1, HP0.out.2.1, HP0.out.2.2, own_int1 WB _ _, (Fr.refl _ _).alloc _⟩
  clear HP0
  go_wp2_with fail
  clear b0 b1
  go_loopw [5, 6] (fun nv ov wr => ∃ r lo i t F pre, nv = .int .i64 ((i : Nat) : Int) ∧ Hid (BqP WB wr q.ns x full ov r lo i t F pre)) (fun _ ov _ => 20 - sliceLen ov)
  case atStart => exact ⟨d, lo, q.root, t, F, [], rfl, HI⟩
  case round =>
    clear HI
    obtain ⟨r, lo, i, t, F, pre, rfl, hI⟩ := hrel
    have HI := Lib.hid hI.out
    have hlen : pre.length + (r + 1) = d + 1 := by
      have h1 := congrArg List.length HI.out.eq
      rw [List.length_append, Bt.path_len, HPL.out] at h1
      exact h1
    obtain ⟨A1, k1, hov⟩ := HI.out.own.form0
    rw [show ((pre ++ [i]).map (fun i : Nat => (i : Int))).length = pre.length + 1 by simp] at hov
    subst hov
    have hil : i < q.ns.length := HI.out.rep.lt _ HI.out.rep.self
    have i0 : (0 : Int) ≤ i := by omega
    have iI : (i : Int) < q.ns.length := by omega
    obtain ⟨b0, b1⟩ := HXC.out wr HI.out.fr
    obtain ⟨A2, k2, A3, k3, q2, q3, r2, r3⟩ := HS.out.at hil
    have HQ : Hid (∀ W, Fr [] wr W → (W.cell? ⟨X, 0, none⟩ = some (.slice (some ⟨g, 0, none⟩) q.ns.length c) ∧ W.cell? ⟨X, 1, none⟩ = some (.int .i64 (q.root : Int))) ∧ W.cell? ⟨g, i * 2, none⟩ = some (.slice A2 (Bt.nd q.ns i).1.length k2) ∧ W.cell? ⟨g, i * 2 + 1, none⟩ = some (.slice A3 (Bt.nd q.ns i).2.length k3)) := fun W hW => ⟨HXC.out W (HI.out.fr.trans hW), (HI.out.fr.trans hW).cell q2 (by simp), (HI.out.fr.trans hW).cell q3 (by simp)⟩
    obtain ⟨-, q0, q1⟩ := HQ.out wr (Fr.refl _ _)
    clear hI q2 q3
    cases r with
    | zero =>
      have hkn := Bt.rep_leaf HI.out.rep
      rw [hkn] at q1
      have HE : Hid (pre ++ [i] = full) := HI.out.eq
      clear hkn r2 r3
      go_wp2
      go_ret
      rw [← HE.out]
      exact HI.out.own.newRow (Nat.le_of_lt hszX |> fun _ => HF0.out.size) (HF0.out.trans HI.out.fr)
    | succ r =>
      obtain ⟨hu, j, s, F', hj, hrep, hok, hpath⟩ := Bt.rep_kid HI.out.rep HI.out.ok x
      have HUN := Lib.hid (bq_under wr.drew _ _ _ x (r2.step (HI.out.fr.trans (Fr.refl [] wr).drew)) (by have := hks i; omega))
      obtain ⟨B3, g3, o3, c3, e3, -, hA3, hc3⟩ := r3.form
      injection e3 with e31 _ e33
      subst e31 e33
      obtain rfl := hA3 (by omega)
      have HKC := Lib.hid (fun W (hW : Fr [] wr W) => hc3 W (HI.out.fr.trans hW) _ hu)
      rw [hj] at HKC
      have HE : Hid ((pre ++ [i]) ++ Bt.path q.ns x r j = full) := by
        show _ = _
        rw [← HI.out.eq, hpath]
        simp
      have HOK := Lib.hid (And.intro hrep hok)
      have HOW := Lib.hid (HI.out.own.kept ((Fr.refl [] wr).drew) (by simp))
      generalize Bt.und (Bt.nd q.ns i).1 x = u at *
      have u0 : (0 : Int) ≤ u := by omega
      have uI : (u : Int) < (Bt.nd q.ns i).2.length := by omega
      have kp : (0 : Int) < (Bt.nd q.ns i).2.length := by omega
      have kpg : (((Bt.nd q.ns i).2.length : Int) > 0) = True := eq_true kp
      generalize (Bt.nd q.ns i).1.length = l1 at *
      generalize (Bt.nd q.ns i).2.length = l2 at *
      clear r2 hA3 hc3 hj hrep hok hpath hu
      have HFD := Lib.hid (HI.out.fr.trans (Fr.refl [] wr).drew)
      go_wp2_with fail
      (refine wp_region_mix (Fr [] wr ·) 14 [(true, 0), (true, 1), (true, 2), (true, 3), (true, 4), (true, 5), (true, 6), (true, 7), (true, 8), (true, 9), (true, 10), (true, 11), (true, 12), (false, 13)] (by kernel_rfl) (by kernel_rfl) ((Fr.refl _ _).drew) ?_; simp only [pickOps, List.map_cons, List.map_nil, List.getD_cons_zero, List.getD_cons_succ, List.drop_succ_cons, List.drop_zero])
      (iterate 13 (first | (refine wpMix_take (v := ?_) (by rfl) ?_ ?_; rotate_left; (focus (intro W hW; obtain ⟨⟨b0, b1⟩, q0, q1⟩ := HQ.out W hW; go_simp; (try with_reducible rfl); done)); try simp only [Act.put, List.setIfInBounds_toArray, List.set_cons_zero, List.set_cons_succ]) | (refine wpMix_leave (by rfl) ?_; try simp only [Act.put, List.setIfInBounds_toArray, List.set_cons_zero, List.set_cons_succ])))
      refine wpMix_walk ?_
      go_wp2_with (go_at_call 60; (with_reducible refine useC HUN.out ?_); rintro e w3 ⟨rfl, rfl⟩)
      refine MixQ.mk ((Fr.refl _ _).drew) ?_
      refine wpMix_nil ?_
      have hkc := HKC.out wr.drew (Fr.refl _ _).drew
      have hsz : WB.heap.size ≤ wr.drew.heap.size := HFD.out.size
      go_wp2_with (at_builtin; refine wpList_push_int (wr := wr.drew) Tryd.intT rfl _ _ rfl WB.heap.size _ _ rfl HOW.out rfl (by simp; omega) hsz ?_; intro v' w2 h1 h2 h3; have HI2 : Hid (BqP WB w2 q.ns x full v' r 2 j s F' (pre ++ [i])) := ⟨HOK.out.1, HOK.out.2, HE.out, by rw [List.map_append]; exact h1, HFD.out.below_step h3 (Nat.le_refl _)⟩; have hv2 := h1.form0; clear h1 h2 h3)
      obtain ⟨A4, k4, hv4⟩ := hv2
      rw [show ((pre ++ [i]).map (fun i : Nat => (i : Int)) ++ [(j : Int)]).length = pre.length + 2 by simp] at hv4
      subst hv4
      go_roundw
      case rel => exact ⟨r, 2, j, s, F', pre ++ [i], rfl, HI2⟩
      case measure => (simp [sliceLen]; try omega)
end Go.Proofs.YtokbhiokcoldbaaDoor
