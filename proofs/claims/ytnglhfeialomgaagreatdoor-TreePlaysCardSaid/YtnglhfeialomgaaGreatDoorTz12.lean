/- Trees of directories: within. -/
import Derived.LaidEqlPtr
import Derived.Test.YtnglhfeialomgaaGreatDoorTz11
namespace Go.Proofs.YtnglhfeialomgaaGreatDoor
open Go.RowKit Go.Shelf
attribute [local go_sem] Oper.semAt_some

/-- A node is somewhere below another one. -/
def Tr.Und (g : Tr.G) (n d : Nat) : Prop := ∃ x r, Tr.fnd g n (x :: r) = .ok d
theorem Tr.Und.kid {g : Tr.G} {n d : Nat} : Tr.Und g n d ↔ ∃ x c, Tr.kid g n x = some c ∧ (c = d ∨ Tr.Und g c d) := by
  constructor
  · rintro ⟨x, r, h⟩
    obtain ⟨a, m, e, h1, h2, h3, h4⟩ := Tr.fnd_front (p := []) h
    injection h1 with h1
    subst h1
    refine ⟨x, e, by rw [Tr.kid_of h2]; exact h3, ?_⟩
    cases r with
    | nil => injection h4 with h4; exact .inl h4
    | cons y r => exact .inr ⟨y, r, h4⟩
  · rintro ⟨x, c, h, rfl | ⟨y, r, h2⟩⟩
    · exact ⟨x, [], by rw [Tr.fnd_step h]; rfl⟩
    · exact ⟨x, y :: r, by rw [Tr.fnd_step h]; exact h2⟩
theorem node_info : ∃ j, Tryz.prog.info? 56 = some j ∧ j.size ≠ 0 := by
  have h : (Tryz.prog.info? 56).map (·.size) = some 2 := by kernel_rfl
  cases hj : Tryz.prog.info? 56 with
  | none => rw [hj] at h; cases h
  | some j => rw [hj] at h; exact ⟨j, rfl, by have := Option.some.inj h; dsimp only at this; omega⟩
theorem nodePtr_eq {w : World} {tb : Nat} {g : Tr.G} {dom : Nat → Prop} {K a b : Nat} (h : TrS w tb g dom K) (ha : dom a) (hb : dom b) : (binOp .eql 53 (.pointer (some ⟨a, 0, none⟩)) (.pointer (some ⟨b, 0, none⟩))).run Tryz.prog w = .ok (.bool (decide (a = b))) w := by
  obtain ⟨j, hj, hsz⟩ := node_info
  have hp : Tryz.prog.underlying 53 = some (.pointer 56) := by kernel_rfl
  by_cases e : a = b
  · subst e
    rw [run_eql_ptr_same w _ hp hj, decide_eq_true rfl]
  · obtain ⟨va, hva⟩ := (h.node a ha).obj
    obtain ⟨vb, hvb⟩ := (h.node b hb).obj
    rw [run_eql_ptr_other w hp hj hsz (fun e2 => e (Addr.mk.inj e2).1) hva hvb, decide_eq_false e]
set_option maxRecDepth 100000 in
set_option maxHeartbeats 4000000 in
theorem tr_within (tb : Nat) (g : Tr.G) (dom : Nat → Prop) (K d : Nat) (hdd : dom d) : ∀ (k : Nat) (w : World) (n : Nat) (b : Bool), TrS w tb g dom K → dom n → (∀ r c, Tr.fnd g n r = .ok c → r.length ≤ k) → k ≤ 8 → (b = true ↔ Tr.Und g n d) →
    Calls Tryz.prog 43 #[.pointer (some ⟨n, 0, none⟩), .pointer (some ⟨d, 0, none⟩)] w fun e w' => e = .returned (.bool b) ∧ Fr [] w w' := by
  intro k
  induction k using Nat.strongRecOn with
  | ind k ih =>
  intro w n b hS hd hk hk8 hb
  have hnode := hS.node n hd
  obtain ⟨mb, m, hm0, hmb⟩ : ∃ (mb : Option Nat) (m : Nm → Option Nat), (w.heap[n]? = some (.cells #[.map mb, .int .i64 (g.nms n)] 56 (0, 0)) ∧ (∀ x, Tr.kid g n x = m x)) ∧ ((mb = none ∧ ∀ x, m x = none) ∨ ∃ b, mb = some b ∧ SMap Tryz.prog 9 w b K m) := by
    cases he : g.ent n with
    | none => exact ⟨none, fun _ => none, ⟨hnode.file he, fun x => by unfold Tr.kid; rw [he]; rfl⟩, .inl ⟨rfl, fun _ => rfl⟩⟩
    | some m => obtain ⟨h1, h2⟩ := hnode.dir he; exact ⟨_, m, ⟨h1, fun x => Tr.kid_of he x⟩, .inr ⟨_, rfl, h2⟩⟩
  have n0 : ((w.alloc (.cells #[.pointer (some ⟨d, 0, none⟩)] 53)).alloc (.cells #[.bool false] 4)).cell? ⟨n, 0, none⟩ = some (.map mb) := by rw [cell_of_row _ _ _ _ _ _ ((((Fr.refl [] w).alloc _).alloc _).get hm0.1 (by simp))]; rfl
  refine (callsIn_wide (n := 8)).1 ?_
  refine callsIn_of_wp_marks Tryz.func43 rfl trivial ?_ rfl
  simp only [Tryz.ntmps43, List.size_toArray, List.length_cons, List.length_nil, Nat.reduceAdd, Nat.reduceSub, Array.replicate_succ, Array.replicate_zero, List.push_toArray, List.append_toArray, List.nil_append, List.cons_append]
  have HS := Lib.hid hS
  have HMB := Lib.hid hmb
  have HM0 := Lib.hid hm0
  have HBB := Lib.hid hb
  clear hS hmb hm0 hnode hb
  gi_wp2_with (refine ⟨trivial, ?_⟩; gi_at_call 58; refine (callsIn_wide.2 (tr_vals0 _ _)).mono ?_; rintro e w2 ⟨rfl, rfl⟩)
  -- the world where the loop begins
  have x0 := heap_alloc_new w (.cells #[.pointer (some ⟨d, 0, none⟩)] 53)
  have f0 : Fr [] w (w.alloc (.cells #[.pointer (some ⟨d, 0, none⟩)] 53)) := (Fr.refl _ _).alloc _
  have x1 := heap_alloc_new (w.alloc (.cells #[.pointer (some ⟨d, 0, none⟩)] 53)) (.cells #[.bool false] 4)
  have f1 : Fr [] _ ((w.alloc (.cells #[.pointer (some ⟨d, 0, none⟩)] 53)).alloc (.cells #[.bool false] 4)) := (Fr.refl [] (w.alloc (.cells #[.pointer (some ⟨d, 0, none⟩)] 53))).alloc _
  have x2 := heap_alloc_new ((w.alloc (.cells #[.pointer (some ⟨d, 0, none⟩)] 53)).alloc (.cells #[.bool false] 4)) (.cells #[.map mb] 54)
  have f2 : Fr [] _ (((w.alloc (.cells #[.pointer (some ⟨d, 0, none⟩)] 53)).alloc (.cells #[.bool false] 4)).alloc (.cells #[.map mb] 54)) := (Fr.refl [] ((w.alloc (.cells #[.pointer (some ⟨d, 0, none⟩)] 53)).alloc (.cells #[.bool false] 4))).alloc _
  have y0 := f2.get (f1.get x0 (by simp)) (by simp)
  have y1 := f2.get x1 (by simp)
  have fA := (f0.trans f1).trans f2
  have hsz : (((w.alloc (.cells #[.pointer (some ⟨d, 0, none⟩)] 53)).alloc (.cells #[.bool false] 4)).alloc (.cells #[.map mb] 54)).heap.size = w.heap.size + 3 := by simp
  simp only [World.size_alloc] at x2 y1
  obtain ⟨W0, hW0⟩ : ∃ W0, ((w.alloc (.cells #[.pointer (some ⟨d, 0, none⟩)] 53)).alloc (.cells #[.bool false] 4)).alloc (.cells #[.map mb] 54) = W0 := ⟨_, rfl⟩
  rw [hW0] at fA hsz y0 y1 x2 ⊢
  clear x0 x1 f0 f1 f2 hW0 n0
  have hsl : W0.cell? ⟨w.heap.size + 1 + 1, 0, none⟩ = some (.map mb) := by rw [cell_of_row _ _ _ _ _ _ x2]; rfl
  have hseq : ∃ N, SeqStopsK Fence.wide 7 Tryz.prog 78 #[.pointer (some ⟨w.heap.size + 1 + 1, 0, none⟩)] (fun x : Kid m => #[.pointer (some ⟨x.1, 0, none⟩)]) KeepsWalks (AllKids m) (fun _ => True) N W0 := by
    rcases HMB.out with ⟨rfl, h0⟩ | ⟨b, rfl, hb⟩
    · exact tr_valsNil Fence.wide 7 trivial rfl _ m h0 W0 (by omega) hsl
    · exact tr_vals Fence.wide 7 trivial rfl (by decide) _ b K m W0 (by omega) hsl (hb.keep (fA.block b hb.lt (by simp)))
  obtain ⟨N, hseq⟩ := hseq
  -- a child's ways
  have hkid : ∀ x : Kid m, dom x.1 ∧ (∃ y, Tr.kid g n y = some x.1) ∧ ∃ j, j < k ∧ (∀ r c, Tr.fnd g x.1 r = .ok c → r.length ≤ j) := fun ⟨c, x, hx⟩ => by
    have hkx : Tr.kid g n x = some c := (HM0.out.2 x).trans hx
    have hk1 := hk [x] c (by rw [Tr.fnd_step hkx]; rfl)
    simp only [List.length_singleton] at hk1
    refine ⟨HS.out.closed n x c hd hkx, ⟨x, hkx⟩, k - 1, by omega, fun r c' hr => ?_⟩
    have := hk (x :: r) c' (by rw [Tr.fnd_step hkx]; exact hr)
    rw [List.length_cons] at this
    omega
  have HUND : Hid (∀ x : Kid m, x.1 = d ∨ Tr.Und g x.1 d → Tr.Und g n d) := fun x hx => by
    obtain ⟨y, hy⟩ := (hkid x).2.1
    exact Tr.Und.kid.2 ⟨y, x.1, hy, hx⟩
  have hw1 : ¬ (w.heap.size = w.heap.size + 1) := by omega
  refine wpIn_rangeFunc_ownH rfl (by decide) (gf := 78) (lb := #[.pointer (some ⟨w.heap.size + 1 + 1, 0, none⟩)]) rfl trivial (enters_of Tryz.func78 (by kernel_rfl) rfl)
    hseq (fun h k => h.trans k) (fun W l o o' hl h1 h2 h3 => walksK_b (w := W0) W l o o' hl h1 h2 h3) (Below.refl _ _) (fun _ => rfl)
    (fun pre W => (∀ y ∈ pre, ¬ (y.1 = d ∨ Tr.Und g y.1 d)) ∧ W.heap[w.heap.size + 1]? = some (.cells #[.bool false] 4 (0, 0)) ∧ Kq (w.heap.size + 3) [w.heap.size + 1] W0 W)
    (fun c _ W => c = .ret ∧ Tr.Und g n d ∧ W.heap[w.heap.size + 1]? = some (.cells #[.bool true] 4 (0, 0)) ∧ Kq (w.heap.size + 3) [w.heap.size + 1] W0 W)
    (fun s X Y row hs hg hr => by obtain ⟨h1, h2, h3⟩ := hs; exact ⟨h1, CellsKept.of_grown hg hr _ _ h2 rfl, h3.grown hg (fun r e => by have := (hr r e).1; omega) (by have := h3.size; omega)⟩)
    (fun c s X Y row hs hg hr => by obtain ⟨h0, h1, h2, h3⟩ := hs; exact ⟨h0, h1, CellsKept.of_grown hg hr _ _ h2 rfl, h3.grown hg (fun r e => by have := (hr r e).1; omega) (by have := h3.size; omega)⟩)
    ⟨by simp, y1, Kq.refl _ _ _⟩
    (fun x a' W => a' = { tmps := #[Value.pointer (some { block := n, off := 0 }), Value.pointer (some { block := d, off := 0 }), undef, Value.pointer (some { block := w.heap.size, off := 0 }), Value.pointer (some { block := w.heap.size + 1, off := 0 }), Value.pointer (some ⟨x.1, 0, none⟩), Value.pointer (some { block := n, off := 0 }), Value.pointer (some { block := n, off := 0 }), Value.pointer (some { block := n, off := 0 }), Value.map mb, Value.func (Fn.func 78) #[] #[Value.pointer (some { block := w.heap.size + 1 + 1, off := 0 })], Value.pointer (some ⟨x.1, 0, none⟩), undef, undef, undef, undef, undef, undef, undef, undef], defers := [] })
    (fun x a' _ X Y row hs hg hr => hs)
    ?assign ?body ?done ?stop
  case assign =>
    rintro l pre x W K ⟨hp, hb, hKI⟩ hK
    gi_wp2
    exact hK _ _ (KeepsFrom.refl _ _) (KeepsWalks.refl _) ⟨hp, hb, hKI⟩ rfl
  case body =>
    rintro l pre x a' W hl ⟨r, hr⟩ ⟨hp, hb, hKI⟩ rfl hlt
    obtain ⟨hdx, -, j, hj, hjk⟩ := hkid x
    have hfr : Fr [] w W := hKI.frOf fA (by omega) (by simp)
    have hbd := hKI.get y0 (by omega) (by simp)
    have HI := Lib.hid (fun bx (hbx : bx = true ↔ Tr.Und g x.1 d) W' (h : Fr [] W W') => ih j hj W' x.1 bx (HS.out.step (hfr.trans h)) hdx hjk (by omega) hbx)
    have c0 : ∀ W', Fr [] W W' → W'.cell? ⟨w.heap.size + 1, 0, none⟩ = some (.bool false) ∧ W'.frozen? ⟨w.heap.size + 1, 0, none⟩ = false ∧ W'.cell? ⟨w.heap.size, 0, none⟩ = some (.pointer (some ⟨d, 0, none⟩)) := fun W' h => ⟨by rw [cell_of_row _ _ _ _ _ _ (h.get hb (by simp))]; rfl, free_block (h.get hb (by simp)) 0 none, by rw [cell_of_row _ _ _ _ _ _ (h.get hbd (by simp))]; rfl⟩
    have C0 := Lib.hid c0
    have HB := Lib.hid hb
    have HKI := Lib.hid hKI
    have HP := Lib.hid hp
    have hlx : l < W.heap.size := lt_of_heap hr
    obtain ⟨c1, fz, c2⟩ := c0 W (Fr.refl _ _)
    have HU := Lib.hid (HUND.out x)
    -- how a round ends
    have hend : ∀ W', Fr [] W W' → Fr [w.heap.size + 1] W (W'.setCell ⟨w.heap.size + 1, 0, none⟩ (.bool true)) ∧ (W'.setCell ⟨w.heap.size + 1, 0, none⟩ (.bool true)).heap[w.heap.size + 1]? = some (.cells #[.bool true] 4 (0, 0)) ∧ Kq (w.heap.size + 3) [w.heap.size + 1] W0 (W'.setCell ⟨w.heap.size + 1, 0, none⟩ (.bool true)) := fun W' hf => by
      have hF : Fr [w.heap.size + 1] W (W'.setCell ⟨w.heap.size + 1, 0, none⟩ (.bool true)) := (hf.mono (by simp)).setCell (.inl (by simp)) _
      exact ⟨hF, set_block (hf.get HB.out (by simp)) _, HKI.out.trans (Kq.of_fr hF (by have := HKI.out.size; omega))⟩
    have HE := Lib.hid hend
    clear ih hk hkid hseq hsl hKI hp c0 hjk y0 y1 x2 hend hb hbd HUND
    have hpe := nodePtr_eq (HS.out.step hfr) hdx hdd
    clear hfr
    by_cases hxd : x.1 = d
    · have HXD := Lib.hid hxd
      rw [decide_eq_true hxd] at hpe
      clear hxd
      gi_wp2
      refine ⟨trivial, ?_⟩
      gi_wp2
      obtain ⟨q1, q2, q3⟩ := HE.out W (Fr.refl _ _)
      exact ⟨KeepsFrom.of_fr q1 (fun k hk o ho => by simp only [List.mem_singleton] at hk; subst hk; rw [HB.out] at ho; cases ho; rfl), rfl, HU.out (.inl HXD.out), q2, q3⟩
    · have HXD := Lib.hid hxd
      rw [decide_eq_false hxd] at hpe
      clear hxd
      by_cases hu : Tr.Und g x.1 d
      · have HUX := Lib.hid hu
        have HI2 := Lib.hid (HI.out true ⟨fun _ => hu, fun _ => rfl⟩)
        clear hu HI
        gi_wp2_with (refine ⟨trivial, ?_⟩; gi_at_call 43; refine (CallsIn.inRound l (callsIn_wide.2 (HI2.out W (Fr.refl [] W)))).mono ?_; rintro e w' ⟨rfl, hfq⟩; have HFQ := Lib.hid hfq; obtain ⟨c3, fz3, c4⟩ := C0.out _ hfq; clear hfq)
        obtain ⟨q1, q2, q3⟩ := HE.out w' HFQ.out
        exact ⟨KeepsFrom.of_fr q1 (fun k hk o ho => by simp only [List.mem_singleton] at hk; subst hk; rw [HB.out] at ho; cases ho; rfl), rfl, HU.out (.inr HUX.out), q2, q3⟩
      · have HUX := Lib.hid hu
        have HI2 := Lib.hid (HI.out false ⟨fun h => (by cases h), fun h => absurd h hu⟩)
        clear hu HI
        gi_wp2_with (refine ⟨trivial, ?_⟩; gi_at_call 43; refine (CallsIn.inRound l (callsIn_wide.2 (HI2.out W (Fr.refl [] W)))).mono ?_; rintro e w' ⟨rfl, hfq⟩; have HFQ := Lib.hid hfq; obtain ⟨c3, fz3, c4⟩ := C0.out _ hfq; clear hfq)
        exact ⟨KeepsFrom.of_fr HFQ.out (by simp), KeepsWalks.of_fr HFQ.out (by simp), fun y hy => by
          rcases List.mem_append.1 hy with hy | hy
          · exact HP.out y hy
          · simp only [List.mem_singleton] at hy
            subst hy
            exact fun h => h.elim HXD.out HUX.out, HFQ.out.get HB.out (by simp), HKI.out.trans (Kq.of_fr (HFQ.out.mono (by simp)) (by have := HKI.out.size; omega))⟩
  case done =>
    rintro D ys W hD hall ⟨hp, hb, hKI⟩ hKD
    have c0 : W.cell? ⟨w.heap.size + 1, 0, none⟩ = some (.bool false) := by rw [cell_of_row _ _ _ _ _ _ hb]; rfl
    have fz : W.frozen? ⟨w.heap.size + 1, 0, none⟩ = false := free_block hb 0 none
    clear ih hkid hseq hsl hk
    gi_wp2
    have hb2 : (W.setCell ⟨w.heap.size + 1, 0, none⟩ (.bool false)).heap[w.heap.size + 1]? = some (.cells #[.bool false] 4 (0, 0)) := set_block hb _
    have hK2 : (W.setCell ⟨w.heap.size + 1, 0, none⟩ (.bool false)).heap[D]? = some (.deferred (some [])) := (heap_setCell_other _ _ D _ (by simp; omega)).trans hKD
    refine ⟨by simp, .inl ⟨_, _, rfl, run_takeDeferred hK2, ?_⟩⟩
    have hck : CellsKept (W.setCell ⟨w.heap.size + 1, 0, none⟩ (.bool false)) ((W.setCell ⟨w.heap.size + 1, 0, none⟩ (.bool false)).putObj D (.deferred none)) := CellsKept.of_grown (B := 0) (grownBy_putObj' _ D _) (fun r e => by cases e; exact ⟨Nat.zero_le _, _, hK2, rfl⟩)
    have hr := hck _ _ hb2 rfl
    have hrc : ((W.setCell ⟨w.heap.size + 1, 0, none⟩ (.bool false)).putObj D (.deferred none)).cell? ⟨w.heap.size + 1, 0, none⟩ = some (.bool false) := by rw [cell_of_row _ _ _ _ _ _ hr]; rfl
    have hbf : b = false := by
      cases hb3 : b with
      | false => rfl
      | true =>
        exfalso
        obtain ⟨x, c, hx, hc⟩ := Tr.Und.kid.1 (HBB.out.1 hb3)
        have hmx := (HM0.out.2 x).symm.trans hx
        have hx4 : x.length ≤ 4 := by
          obtain ⟨m', hm'⟩ : ∃ m', g.ent n = some m' := by
            unfold Tr.kid at hx
            cases he : g.ent n with
            | none => rw [he] at hx; cases hx
            | some m' => exact ⟨m', rfl⟩
          rw [Tr.kid_of hm'] at hx
          exact (HS.out.ok.name n m' x c hm' hx).2.1
        obtain ⟨y, hy, rfl⟩ := hall x c (by unfold maxLen; omega) hmx
        exact hp y hy hc
    rw [hbf]
    have f := hKI.frOf fA (by omega) (by simp)
    exact ⟨_, by simp [results, Tryz.results43, go_sem, hrc], rfl, ⟨f.os, f.tape, f.output, Nat.le_trans f.size (by simp), fun k hk hn => (World.putObj_heap_other (by omega)).trans ((heap_setCell_other _ _ k _ (by simp; omega)).trans (f.block k hk hn))⟩⟩
  case stop =>
    rintro D k pre W hD _ ⟨rfl, hU, hb, hKI⟩ hKD
    clear ih hkid hseq hsl hk
    gi_wp2
    refine ⟨by simp, .inl ⟨_, _, rfl, run_takeDeferred hKD, ?_⟩⟩
    have hck : CellsKept W (W.putObj D (.deferred none)) := CellsKept.of_grown (B := 0) (grownBy_putObj' _ D _) (fun r e => by cases e; exact ⟨Nat.zero_le _, _, hKD, rfl⟩)
    have hr := hck _ _ hb rfl
    have hrc : (W.putObj D (.deferred none)).cell? ⟨w.heap.size + 1, 0, none⟩ = some (.bool true) := by rw [cell_of_row _ _ _ _ _ _ hr]; rfl
    have hbt : b = true := HBB.out.2 hU
    rw [hbt]
    have f := hKI.frOf fA (by omega) (by simp)
    exact ⟨_, by simp [results, Tryz.results43, go_sem, hrc], rfl, ⟨f.os, f.tape, f.output, Nat.le_trans f.size (by simp), fun k hk hn => (World.putObj_heap_other (by omega)).trans (f.block k hk hn)⟩⟩
end Go.Proofs.YtnglhfeialomgaaGreatDoor
