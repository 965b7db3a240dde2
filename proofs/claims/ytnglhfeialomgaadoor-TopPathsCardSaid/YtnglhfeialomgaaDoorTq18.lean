/- Trees of directories: deep, within, depth. -/

import Derived.Test.YtnglhfeialomgaaDoorTq05
import Derived.Test.YtnglhfeialomgaaDoorTq17
namespace Go.Proofs.YtnglhfeialomgaaDoor
open Go.RowKit Go.Shelf
attribute [local go_sem] Oper.semAt_some

/-- How many levels are below a node. -/
def Tr.IsDeep (g : Tr.G) (n dp : Nat) : Prop := (∀ r c, Tr.fnd g n r = .ok c → r.length ≤ dp) ∧ ∃ r c, Tr.fnd g n r = .ok c ∧ r.length = dp
def Tr.DeepOf (g : Tr.G) (n : Nat) (pre : List Nat) (dp : Nat) : Prop := (∀ y ∈ pre, ∀ r c, Tr.fnd g y r = .ok c → r.length + 1 ≤ dp) ∧ ∃ r c, Tr.fnd g n r = .ok c ∧ r.length = dp
theorem Tr.deep_is {g : Tr.G} {n : Nat} : ∀ k, (∀ r c, Tr.fnd g n r = .ok c → r.length ≤ k) → ∃ dp, dp ≤ k ∧ Tr.IsDeep g n dp
  | 0, h => ⟨0, Nat.le_refl _, h, [], n, rfl, rfl⟩
  | k + 1, h => by
    by_cases hh : ∃ r c, Tr.fnd g n r = .ok c ∧ r.length = k + 1
    · exact ⟨k + 1, Nat.le_refl _, h, hh⟩
    · obtain ⟨dp, h1, h2⟩ := Tr.deep_is k (fun r c hr => by
        have := h r c hr
        have : r.length ≠ k + 1 := fun e => hh ⟨r, c, hr, e⟩
        omega)
      exact ⟨dp, by omega, h2⟩
theorem Tr.IsDeep.eq {g : Tr.G} {n a b : Nat} (h : Tr.IsDeep g n a) (k : Tr.IsDeep g n b) : a = b := by
  obtain ⟨r, c, h1, h2⟩ := h.2
  obtain ⟨r', c', k1, k2⟩ := k.2
  have := h.1 r' c' k1
  have := k.1 r c h1
  omega
set_option maxRecDepth 100000 in
set_option maxHeartbeats 4000000 in
theorem tr_deep (tb : Nat) (g : Tr.G) (dom : Nat → Prop) (K : Nat) : ∀ (k : Nat) (w : World) (n : Nat), TrS w tb g dom K → dom n → Tr.IsDeep g n k → k ≤ 8 →
    Calls Tryd.prog 32 #[.pointer (some ⟨n, 0, none⟩)] w fun e w' => e = .returned (.int .i64 k) ∧ Fr [] w w' := by
  intro k
  induction k using Nat.strongRecOn with
  | ind k ih =>
  intro w n hS hd hkd hk8
  have hk := hkd.1
  have hnode := hS.node n hd
  obtain ⟨mb, m, hm0, hmb⟩ : ∃ (mb : Option Nat) (m : Nm → Option Nat), (w.heap[n]? = some (.cells #[.map mb, .int .i64 (g.nms n)] 51 (0, 0)) ∧ (∀ x, Tr.kid g n x = m x)) ∧ ((mb = none ∧ ∀ x, m x = none) ∨ ∃ b, mb = some b ∧ SMap Tryd.prog 9 w b K m) := by
    cases he : g.ent n with
    | none => exact ⟨none, fun _ => none, ⟨hnode.file he, fun x => by unfold Tr.kid; rw [he]; rfl⟩, .inl ⟨rfl, fun _ => rfl⟩⟩
    | some m => obtain ⟨h1, h2⟩ := hnode.dir he; exact ⟨_, m, ⟨h1, fun x => Tr.kid_of he x⟩, .inr ⟨_, rfl, h2⟩⟩
  have n0 : (w.alloc (.cells #[.int .i64 0] 3)).cell? ⟨n, 0, none⟩ = some (.map mb) := by rw [cell_of_row _ _ _ _ _ _ (((Fr.refl [] w).alloc _).get hm0.1 (by simp))]; rfl
  refine (callsIn_wide (n := 8)).1 ?_
  refine callsIn_of_wp_marks Tryd.func32 rfl trivial ?_ rfl
  simp only [Tryd.ntmps32, List.size_toArray, List.length_cons, List.length_nil, Nat.reduceAdd, Nat.reduceSub, Array.replicate_succ, Array.replicate_zero, List.push_toArray, List.append_toArray, List.nil_append, List.cons_append]
  have HS := Lib.hid hS
  have HMB := Lib.hid hmb
  have HM0 := Lib.hid hm0
  clear hS hmb hm0 hnode
  gi_wp2_with (refine ⟨trivial, ?_⟩; gi_at_call 45; refine (callsIn_wide.2 (tr_vals0 _ _)).mono ?_; rintro e w2 ⟨rfl, rfl⟩)
  -- the world where the loop begins
  have x0 := heap_alloc_new w (.cells #[.int .i64 0] 3)
  have f0 : Fr [] w (w.alloc (.cells #[.int .i64 0] 3)) := (Fr.refl _ _).alloc _
  have f1 : Fr [] (w.alloc (.cells #[.int .i64 0] 3)) ((w.alloc (.cells #[.int .i64 0] 3)).alloc (.cells #[.map mb] 49)) := (Fr.refl _ _).alloc _
  have x1 := heap_alloc_new (w.alloc (.cells #[.int .i64 0] 3)) (.cells #[.map mb] 49)
  have y0 := f1.get x0 (by simp)
  have fA := f0.trans f1
  have hsz : ((w.alloc (.cells #[.int .i64 0] 3)).alloc (.cells #[.map mb] 49)).heap.size = w.heap.size + 2 := by simp
  simp only [World.size_alloc] at x1
  obtain ⟨W0, hW0⟩ : ∃ W0, (w.alloc (.cells #[.int .i64 0] 3)).alloc (.cells #[.map mb] 49) = W0 := ⟨_, rfl⟩
  rw [hW0] at fA hsz y0 x1 ⊢
  clear x0 f0 f1 hW0 n0
  have hsl : W0.cell? ⟨w.heap.size + 1, 0, none⟩ = some (.map mb) := by rw [cell_of_row _ _ _ _ _ _ x1]; rfl
  have hseq : ∃ N, SeqStopsK Fence.wide 7 Tryd.prog 67 #[.pointer (some ⟨w.heap.size + 1, 0, none⟩)] (fun x : Kid m => #[.pointer (some ⟨x.1, 0, none⟩)]) KeepsWalks (AllKids m) (fun _ => True) N W0 := by
    rcases HMB.out with ⟨rfl, h0⟩ | ⟨b, rfl, hb⟩
    · exact tr_valsNil Fence.wide 7 trivial rfl _ m h0 W0 (by omega) hsl
    · exact tr_vals Fence.wide 7 trivial rfl (by decide) _ b K m W0 (by omega) hsl (hb.keep (fA.block b hb.lt (by simp)))
  obtain ⟨N, hseq⟩ := hseq
  -- a child's ways
  have hkid : ∀ x : Kid m, dom x.1 ∧ ∃ j, j < k ∧ Tr.IsDeep g x.1 j := fun ⟨c, x, hx⟩ => by
    have hkx : Tr.kid g n x = some c := (HM0.out.2 x).trans hx
    have hk1 := hk [x] c (by rw [Tr.fnd_step hkx]; rfl)
    simp only [List.length_singleton] at hk1
    obtain ⟨j, hj1, hj2⟩ := Tr.deep_is (g := g) (n := c) (k - 1) (fun r c' hr => by
      have := hk (x :: r) c' (by rw [Tr.fnd_step hkx]; exact hr)
      rw [List.length_cons] at this
      omega)
    exact ⟨HS.out.closed n x c hd hkx, j, by omega, hj2⟩
  have hup : ∀ (x : Kid m) (r : List Tr.Nme) (c' : Nat), Tr.fnd g x.1 r = .ok c' → ∃ r' c'', Tr.fnd g n r' = .ok c'' ∧ r'.length = r.length + 1 := fun ⟨c, x, hx⟩ r c' hr => ⟨x :: r, c', by rw [Tr.fnd_step ((HM0.out.2 x).trans hx)]; exact hr, by simp⟩
  have HUP := Lib.hid hup
  clear hup
  refine wpIn_rangeFunc_ownH rfl (by decide) (gf := 67) (lb := #[.pointer (some ⟨w.heap.size + 1, 0, none⟩)]) rfl trivial (enters_of Tryd.func67 (by kernel_rfl) rfl)
    hseq (fun h k => h.trans k) (fun W l o o' hl h1 h2 h3 => walksK_b (w := W0) W l o o' hl h1 h2 h3) (Below.refl _ _) (fun _ => rfl)
    (fun pre W => ∃ dp : Nat, W.heap[w.heap.size]? = some (.cells #[.int .i64 dp] 3 (0, 0)) ∧ Tr.DeepOf g n (pre.map (·.1)) dp ∧ Kq (w.heap.size + 2) [w.heap.size] W0 W)
    (fun _ _ _ => False)
    (fun s X Y row hs hg hr => by obtain ⟨dp, h1, h2, h3⟩ := hs; exact ⟨dp, CellsKept.of_grown hg hr _ _ h1 rfl, h2, h3.grown hg (fun r e => by have := (hr r e).1; omega) (by have := h3.size; omega)⟩)
    (fun _ _ _ _ _ hs _ _ => hs)
    ⟨0, y0, ⟨by simp, [], n, rfl, rfl⟩, Kq.refl _ _ _⟩
    (fun x a' W => a' = { tmps := #[Value.pointer (some { block := n, off := 0 }), undef, Value.int IntKind.i64 0, Value.pointer (some { block := w.heap.size, off := 0 }), Value.pointer (some ⟨x.1, 0, none⟩), Value.pointer (some { block := n, off := 0 }), Value.pointer (some { block := n, off := 0 }), Value.pointer (some { block := n, off := 0 }), Value.map mb, Value.func (Fn.func 67) #[] #[Value.pointer (some { block := w.heap.size + 1, off := 0 })], Value.pointer (some ⟨x.1, 0, none⟩), undef, undef, undef, undef, undef, undef], defers := [] })
    (fun x a' _ X Y row hs hg hr => hs)
    ?assign ?body ?done ?stop
  case assign =>
    rintro l pre x W K ⟨dp, hb, hD, hKI⟩ hK
    gi_wp2
    exact hK _ _ (KeepsFrom.refl _ _) (KeepsWalks.refl _) ⟨dp, hb, hD, hKI⟩ rfl
  case body =>
    rintro l pre x a' W hl ⟨r, hr⟩ ⟨dp, hb, hD, hKI⟩ rfl hlt
    obtain ⟨hdx, j, hj, hjk⟩ := hkid x
    have hfr : Fr [] w W := hKI.frOf fA (by omega) (by simp)
    have HI := Lib.hid (fun W' (h : Fr [] W W') => ih j hj W' x.1 (HS.out.step (hfr.trans h)) hdx hjk (by omega))
    have HJ := Lib.hid hjk
    have c0 : ∀ W', Fr [] W W' → W'.cell? ⟨w.heap.size, 0, none⟩ = some (.int .i64 dp) ∧ W'.frozen? ⟨w.heap.size, 0, none⟩ = false := fun W' h => ⟨by rw [cell_of_row _ _ _ _ _ _ (h.get hb (by simp))]; rfl, free_block (h.get hb (by simp)) 0 none⟩
    have C0 := Lib.hid c0
    have HB := Lib.hid hb
    have HKI := Lib.hid hKI
    have hdp : dp ≤ k := by obtain ⟨-, r, c, h1, h2⟩ := hD; rw [← h2]; exact hk r c h1
    have HD := Lib.hid hD
    have hmx : Tryd.prog.follows .mixedOrders = true := by kernel_rfl
    have hlx : l < W.heap.size := lt_of_heap hr
    have cw : IntKind.i64.wrap (1 + (j : Int)) = 1 + (j : Int) := by rw [IntKind.wrap_i64]; omega
    obtain ⟨c1, fz⟩ := c0 W (Fr.refl _ _)
    -- the round's end
    have hend : ∀ v : Nat, (v = max dp (j + 1)) → ∀ W', Fr [] W W' → Fr [w.heap.size] W (W'.setCell ⟨w.heap.size, 0, none⟩ (.int .i64 v)) ∧ (∃ dp' : Nat, (W'.setCell ⟨w.heap.size, 0, none⟩ (.int .i64 v)).heap[w.heap.size]? = some (.cells #[.int .i64 dp'] 3 (0, 0)) ∧ Tr.DeepOf g n ((pre ++ [x]).map (·.1)) dp' ∧ Kq (w.heap.size + 2) [w.heap.size] W0 (W'.setCell ⟨w.heap.size, 0, none⟩ (.int .i64 v))) := fun v hv W' hf => by
      have hF : Fr [w.heap.size] W (W'.setCell ⟨w.heap.size, 0, none⟩ (.int .i64 v)) := (hf.mono (by simp)).setCell (.inl (by simp)) _
      refine ⟨hF, v, set_block (hf.get HB.out (by simp)) _, ⟨fun y hy r c hr => ?_, ?_⟩, HKI.out.trans (Kq.of_fr hF (by have := HKI.out.size; omega))⟩
      · rw [List.map_append, List.mem_append] at hy
        rcases hy with hy | hy
        · have := HD.out.1 y hy r c hr; omega
        · simp only [List.map_cons, List.map_nil, List.mem_singleton] at hy
          subst hy
          have := HJ.out.1 r c hr
          omega
      · by_cases e : j + 1 ≤ dp
        · obtain ⟨r, c, h1, h2⟩ := HD.out.2
          exact ⟨r, c, h1, by omega⟩
        · obtain ⟨r, c, h1, h2⟩ := HJ.out.2
          obtain ⟨r', c', h3, h4⟩ := HUP.out x r c h1
          exact ⟨r', c', h3, by omega⟩
    have HE := Lib.hid hend
    clear ih hk hkid hseq hsl hKI hD c0 hjk y0 x1 hfr hend hb hkd
    have hmv : max (dp : Int) (1 + (j : Int)) = ((max dp (j + 1) : Nat) : Int) := by omega
    have HMV := Lib.hid hmv
    clear hmv
    gi_wp2
    gi_region_with_o (refine ⟨trivial, ?_⟩; gi_at_call 32; refine (CallsIn.inRound l (callsIn_wide.2 (HI.out W.drew (Fr.refl [] W).drew))).mono ?_; rintro e w' ⟨rfl, hfq⟩; obtain ⟨c2, fz2⟩ := C0.out _ ((Fr.refl [] W).drew.trans hfq))
    all_goals gi_wp2
    all_goals (rw [HMV.out])
    all_goals (obtain ⟨q1, q2⟩ := HE.out _ rfl w' ((Fr.refl [] W).drew.trans hfq))
    all_goals exact ⟨KeepsFrom.of_fr q1 (fun k hk o ho => by simp only [List.mem_singleton] at hk; subst hk; rw [HB.out] at ho; cases ho; rfl), KeepsWalks.of_fr q1 (fun k hk o ho => by simp only [List.mem_singleton] at hk; subst hk; rw [HB.out] at ho; cases ho; rfl), q2⟩
  case done =>
    rintro D ys W hD hall ⟨dp, hb, hDp, hKI⟩ hKD
    have c0 : W.cell? ⟨w.heap.size, 0, none⟩ = some (.int .i64 dp) := by rw [cell_of_row _ _ _ _ _ _ hb]; rfl
    clear ih hkid hseq hsl hk
    gi_wp2
    refine ⟨by simp, .inl ⟨_, _, rfl, run_takeDeferred hKD, ?_⟩⟩
    have hdk : dp = k := Tr.IsDeep.eq ⟨fun r c hr => ?_, hDp.2⟩ hkd
    refine ⟨_, results_tmp rfl _ _ _, by rw [hdk]; rfl, ?_⟩
    rotate_left
    · cases r with
      | nil => exact Nat.zero_le _
      | cons x r =>
        obtain ⟨d, m', e, h1, h2, h3, h4⟩ := Tr.fnd_front (p := []) hr
        injection h1 with h1
        subst h1
        have hkx : Tr.kid g n x = some e := by rw [Tr.kid_of h2]; exact h3
        have hx4 := (HS.out.ok.name n m' x e h2 h3).2.1
        obtain ⟨y, hy, rfl⟩ := hall x e (by unfold maxLen; omega) ((HM0.out.2 x).symm.trans hkx)
        exact hDp.1 y.1 (List.mem_map_of_mem hy) r c h4
    · have f := hKI.frOf fA (by omega) (by simp)
      exact ⟨f.os, f.tape, f.output, Nat.le_trans f.size (by simp), fun k hk hn => (World.putObj_heap_other (by omega)).trans (f.block k hk hn)⟩
  case stop =>
    rintro D k pre W _ _ h _
    exact h.elim
end Go.Proofs.YtnglhfeialomgaaDoor
