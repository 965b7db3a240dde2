/- The contract of package undo's Undo. -/
import Derived.Test.YtmhmbgkpojgbbabDoorUnBack
namespace Go.Proofs.YtmhmbgkpojgbbabDoor
open Go.RowKit Go.Shelf
attribute [local go_sem] Oper.semAt_some

theorem int_new (w : World) (x : Int) : (w.alloc (.cells #[.int .i64 x] 3)).heap[w.heap.size]? = some (.cells #[.int .i64 x] 3 (0, 0)) := heap_alloc_new w _
theorem ptr_new (w : World) (b : Nat) (ty : TypeId) : (w.alloc (.cells #[.pointer (some ⟨b, 0, none⟩)] ty)).heap[w.heap.size]? = some (.cells #[.pointer (some ⟨b, 0, none⟩)] ty (0, 0)) := heap_alloc_new w _
set_option maxRecDepth 100000 in
set_option maxHeartbeats 4000000 in
theorem un_Undo (w : World) (P : Nat → Prop) (b : Nat) (d : Un.D) (t : Int) (h : UnF P w b d) :
    Calls Tryd.prog 8 #[.pointer (some ⟨b, 0, none⟩), .int .i64 t] w (UnAns P b (errV (Un.turnErr t)) (Un.undo d t) w) := by
  have HH := Lib.hid h
  by_cases ht : Un.okT t
  · have HT := Lib.hid (fun W => un_turn_ok ht W)
    have e1 : Un.turnErr t = 0 := if_pos ht
    have e2 : Un.undo d t = Un.leave ⟨Un.un (Un.isT t) d.was d.blk, d.was, d.busy⟩ t := if_pos ht
    rw [e1, e2]
    have HTT := Lib.hid ht
    clear ht e1 e2
    obtain ⟨hO, lv, hB⟩ := h
    obtain ⟨A, c, rfl⟩ := hB.form
    refine (callsIn_wide (n := 8)).1 ?_
    refine callsIn_of_wp_marks Tryd.func8 rfl trivial ?_ rfl
    simp only [Tryd.ntmps8, List.size_toArray, List.length_cons, List.length_nil, Nat.reduceAdd, Nat.reduceSub, Array.replicate_succ, Array.replicate_zero, List.push_toArray, List.append_toArray, List.nil_append, List.cons_append]
    have cw := hB.was hO.blk
    have hfz := hB.free 8
    have hbl := hB.lt.1
    gi_wp2_with (first
      | (refine ⟨trivial, ?_⟩; gi_at_call 19; refine (callsIn_wide.2 (HT.out _)).mono ?_; rintro e w2 ⟨rfl, rfl⟩)
      | (refine ⟨trivial, ?_⟩; gi_at_call 21; refine (callsIn_wide.2 (un_back0 _ _ _ _)).mono ?_; rintro e w2 ⟨rfl, rfl⟩))
    have hT : UnB (fun k => P k ∧ k < w.heap.size) w b (.slice A d.was.length c) d := hB.tight
    clear hB cw hfz
    -- the world where the loop begins
    have x0 := ptr_new w b 23
    have x1 := int_new (w.alloc (.cells #[.pointer (some ⟨b, 0, none⟩)] 23)) t
    have f0 : Fr [] w (w.alloc (.cells #[.pointer (some ⟨b, 0, none⟩)] 23)) := (Fr.refl _ _).alloc _
    have f1 : Fr [] (w.alloc (.cells #[.pointer (some ⟨b, 0, none⟩)] 23)) ((w.alloc (.cells #[.pointer (some ⟨b, 0, none⟩)] 23)).alloc (.cells #[.int .i64 t] 3)) := (Fr.refl _ _).alloc _
    have x2 := heap_alloc_new ((w.alloc (.cells #[.pointer (some ⟨b, 0, none⟩)] 23)).alloc (.cells #[.int .i64 t] 3)) (.cells #[.slice A d.was.length c] 26)
    have f2 : Fr [] _ (((w.alloc (.cells #[.pointer (some ⟨b, 0, none⟩)] 23)).alloc (.cells #[.int .i64 t] 3)).alloc (.cells #[.slice A d.was.length c] 26)) := (Fr.refl [] ((w.alloc (.cells #[.pointer (some ⟨b, 0, none⟩)] 23)).alloc (.cells #[.int .i64 t] 3))).alloc _
    have y0 := f2.get (f1.get x0 (by simp)) (by simp)
    have y1 := f2.get x1 (by simp)
    have fA := (f0.trans f1).trans f2
    have hsz : (((w.alloc (.cells #[.pointer (some ⟨b, 0, none⟩)] 23)).alloc (.cells #[.int .i64 t] 3)).alloc (.cells #[.slice A d.was.length c] 26)).heap.size = w.heap.size + 3 := by simp
    simp only [World.size_alloc] at y1 x2
    obtain ⟨W0, hW0⟩ : ∃ W0, ((w.alloc (.cells #[.pointer (some ⟨b, 0, none⟩)] 23)).alloc (.cells #[.int .i64 t] 3)).alloc (.cells #[.slice A d.was.length c] 26) = W0 := ⟨_, rfl⟩
    rw [hW0] at fA hsz y0 y1 x2 ⊢
    clear x0 x1 f0 f1 f2 hW0
    obtain ⟨g, hRA, hgo, hgn, hcl, hcm⟩ := RwP.of hT.row
    have hgA : g ∉ [b] ∧ (A = none ∨ g < w.heap.size + 3) ∧ RwP W0 A g c d.was := by
      refine ⟨?_, ?_, hRA.fr fA (by simp)⟩
      · cases A with
        | none => have := hgn rfl; simp; omega
        | some a => have h2 := hT.ne2; rw [hgo] at h2; simpa using h2
      · cases A with
        | none => exact .inl rfl
        | some a => have := hT.lt.2 g (by rw [hgo]; rfl); exact .inr (by omega)
    have hsl : W0.cell? ⟨w.heap.size + 1 + 1, 0, none⟩ = some (.slice A d.was.length c) := by rw [cell_of_row _ _ _ _ _ _ x2]; rfl
    have hT0 := hT.keep fA
    have HOK := Lib.hid hO
    obtain ⟨stp, hstp⟩ : ∃ stp : List Int → Fin d.was.length → List Int, stp = fun z i => Un.step (Un.isT t) z (d.was[i.1]'i.2) := ⟨_, rfl⟩
    have hlen : ∀ (pre : List (Fin d.was.length)), (pre.foldl stp d.blk).length = 8 := fun pre => by
      rw [hstp]
      generalize hz : d.blk = z
      have : z.length = 8 := by rw [← hz]; exact hO.blk
      clear hz
      induction pre generalizing z with
      | nil => exact this
      | cons x r ih =>
        refine ih _ ?_
        show (Un.step _ _ _).length = 8
        unfold Un.step
        split
        · simpa using this
        · exact this
    refine wpIn_rangeFunc_ownH rfl (by decide) (gf := 28) (lb := #[.pointer (some ⟨w.heap.size + 1 + 1, 0, none⟩)]) rfl trivial (enters_of Tryd.func28 (by kernel_rfl) rfl)
      (un_back Fence.wide 7 trivial rfl (by decide) (w.heap.size + 1 + 1) (w.heap.size + 3) g c A [b] d.was hO.len W0 hgA.2.2 ⟨hgA.1, by simp; omega, by omega, hgA.2.1⟩ (by omega) hsl)
      (fun h k => h.trans k) (fun W l o o' hl _ _ _ => Kq.putObj W l o' (by omega)) (Below.refl _ _) (fun _ => rfl)
      (fun pre W => UnB (fun k => P k ∧ k < w.heap.size) W b (.slice A d.was.length c) ⟨pre.foldl stp d.blk, d.was, d.busy⟩ ∧ Kq (w.heap.size + 3) [b] W0 W)
      (fun _ _ _ => False)
      (OwnFrom.and (fun s X Y row hs hg hr => hs.cells (CellsKept.of_grown hg hr)) (Kq.own (by omega) (by omega)))
      (fun _ _ _ _ _ hs _ _ => hs)
      ⟨hT0, Kq.refl _ _ _⟩
      (fun x a' W => ∃ Bx, w.heap.size + 3 ≤ Bx ∧ W.heap[Bx]? = some (.cells #[.int .i64 (d.was[x.1]'x.2).t, .int .i64 (d.was[x.1]'x.2).b, .int .i64 (d.was[x.1]'x.2).v] 36 (0, 0)) ∧ a' = { tmps := #[Value.pointer (some ⟨b, 0, none⟩), Value.int IntKind.i64 t, Value.pointer (some ⟨w.heap.size, 0, none⟩), Value.pointer (some ⟨w.heap.size + 1, 0, none⟩), Value.nilIface, Value.nilIface, undef, Value.pointer (some ⟨Bx, 0, none⟩), Value.int IntKind.i64 t, Value.nilIface, Value.nilIface, Value.bool false, undef, Value.pointer (some ⟨b, 0, none⟩), Value.pointer (some ⟨b, 0, none⟩), Value.pointer (some ⟨b, 8, none⟩), Value.slice A d.was.length c, Value.func (Fn.func 28) #[] #[Value.pointer (some ⟨w.heap.size + 1 + 1, 0, none⟩)], .int .i64 (x.1 : Nat), putV (d.was[x.1]'x.2), undef, undef, undef, undef, undef, undef, undef, undef, undef, undef, undef, undef, undef, undef, undef], defers := [] })
      (fun x a' _ X Y row hs hg hr => by obtain ⟨Bx, h1, h2, h3⟩ := hs; exact ⟨Bx, h1, CellsKept.of_grown hg hr _ _ h2 rfl, h3⟩)
      ?assign ?body ?done ?stop
    case assign =>
      rintro l pre x W K ⟨hBI, hKI⟩ hK
      have hsW := hKI.size
      dsimp only [putV]
      clear hstp hlen
      gi_wp2
      exact hK _ _ ((KeepsOthers.alloc _ _).from _) (Kq.of_frT ((Fr.refl [] W).alloc _) (by omega) (by simp)) ⟨hBI.keep ((Fr.refl [] W).alloc _), hKI.trans (Kq.of_frT ((Fr.refl [] W).alloc _) (by omega) (by simp))⟩ ⟨W.heap.size, by omega, heap_alloc_new W _, rfl⟩
    case body =>
      rintro l pre x a' W hl ⟨r, hr⟩ ⟨hBI, hKI⟩ ⟨Bx, hBx, hbx, rfl⟩ hlt
      have hs' : (pre ++ [x]).foldl stp d.blk = Un.step (Un.isT t) (pre.foldl stp d.blk) (d.was[x.1]'x.2) := by rw [List.foldl_append, hstp]; rfl
      have hl8 := hlen pre
      have hrb := hO.rb (d.was[x.1]'x.2) (List.getElem_mem _)
      have hx0 := hKI.get y0 (by omega) (by simp; omega)
      have hx1 := hKI.get y1 (by omega) (by simp; omega)
      have c0 : W.cell? ⟨w.heap.size, 0, none⟩ = some (.pointer (some ⟨b, 0, none⟩)) := by rw [cell_of_row _ _ _ _ _ _ hx0]; rfl
      have c1 : W.cell? ⟨w.heap.size + 1, 0, none⟩ = some (.int .i64 t) := by rw [cell_of_row _ _ _ _ _ _ hx1]; rfl
      have HS := Lib.hid hs'
      have HBI := Lib.hid hBI
      have HKI := Lib.hid hKI
      have HLN := Lib.hid hl8
      have HYB := Lib.hid (And.intro y0 y1)
      clear hs' hstp hlen hBI hKI hl8 hx0 hx1 y0 y1 x2 hsl hT0 hRA hgo hgn hgA hT HT HTT HOK hO HH
      generalize d.was[x.1]'x.2 = r0 at *
      obtain ⟨rt, rb, rv⟩ := r0
      dsimp only at hrb
      obtain ⟨bn, hbn⟩ : ∃ bn : Nat, rb = bn := ⟨rb.toNat, by omega⟩
      subst hbn
      have hb8 : bn < 8 := by omega
      obtain ⟨d0, d1, d2⟩ := pt_cells (r := ⟨rt, bn, rv⟩) hbx
      dsimp only [putV] at d0 d1 d2 ⊢
      clear hbx hrb
      have hlx : l < W.heap.size := lt_of_heap hr
      have hWs : W0.heap.size ≤ W.heap.size := HKI.out.size
      by_cases hy : rt = t
      · have hyb : (rt == t) = true := by simpa using hy
        have hfz := HBI.out.free bn
        have cb := HBI.out.blk (i := bn) (by dsimp only; rw [HLN.out]; exact hb8)
        have HB4 := Lib.hid ((HBI.out.keep ((Fr.refl [] W).drew)).setBlk HLN.out hb8 rv)
        have HF4 : Hid (Fr [b] W (W.drew.setCell ⟨b, bn, none⟩ (.int .i64 rv))) := ((Fr.refl [b] W).drew).setCell (.inl (by simp)) _
        have HS2 := Lib.hid (HS.out.trans (show Un.step (Un.isT t) (List.foldl stp d.blk pre) ⟨rt, bn, rv⟩ = (List.foldl stp d.blk pre).set bn rv from if_pos (by simpa [Un.isT] using hy)))
        have HKF : Hid (KeepsFrom W0.heap.size W (W.drew.setCell ⟨b, bn, none⟩ (.int .i64 rv))) := ((KeepsOthers.drew _).trans (KeepsOthers.setCell _ _ _)).from _
        clear HS hy HBI
        have hbW : b < W.heap.size := by omega
        generalize List.foldl stp d.blk pre = blk0 at *
        generalize nth blk0 bn = y at *
        gi_wp2
        (refine wpIn_region_mixq 7 [(true, 0), (true, 1), (true, 2), (true, 3), (true, 4), (true, 5), (true, 6)] (by kernel_rfl) (by kernel_rfl) ?_; simp only [pickOps, List.map_cons, List.map_nil, List.getD_cons_zero, List.getD_cons_succ, List.drop_succ_cons, List.drop_zero]; (iterate 7 (first | (refine wpMix_take (v := ?_) (by rfl) ?_ ?_; rotate_left; (focus (intro W hW; subst hW; go_simp; (try with_reducible rfl); done)); try simp only [Act.put, List.setIfInBounds_toArray, List.set_cons_zero, List.set_cons_succ]) | (refine wpMix_leave (by rfl) ?_; try simp only [Act.put, List.setIfInBounds_toArray, List.set_cons_zero, List.set_cons_succ]))); refine wpMix_nil ?_)
        go_wp2
        exact ⟨HKF.out, Kq.of_fr HF4.out (by omega), by show UnB _ _ _ _ ⟨_, _, _⟩; rw [HS2.out]; exact HB4.out, HKI.out.trans (Kq.of_fr HF4.out (by omega))⟩
      · have hyb : (rt == t) = false := by simpa using hy
        have HS2 := Lib.hid (HS.out.trans (show Un.step (Un.isT t) (List.foldl stp d.blk pre) ⟨rt, bn, rv⟩ = List.foldl stp d.blk pre from if_neg (by simpa [Un.isT] using hy)))
        clear HS hy
        gi_wp2
        exact ⟨KeepsFrom.refl _ _, Kq.refl _ _ _, by show UnB _ _ _ _ ⟨_, _, _⟩; rw [HS2.out]; exact HBI.out, HKI.out⟩
    case done =>
      rintro D ys W hD rfl ⟨hBI, hKI⟩ hKD
      have hun : (Un.down d.was.length d.was.length).foldl stp d.blk = Un.un (Un.isT t) d.was d.blk := by
        rw [hstp, Un.down_un (Un.isT t) d.was d.blk _ (Nat.le_refl _), Nat.sub_self]; rfl
      rw [hun] at hBI
      have HLV := Lib.hid (un_leave W (fun k => P k ∧ k < w.heap.size) b ⟨Un.un (Un.isT t) d.was d.blk, d.was, d.busy⟩ t ⟨Un.un_ok HOK.out _, _, hBI⟩ HTT.out)
      have hx0 := hKI.get y0 (by omega) (by simp; omega)
      have hx1 := hKI.get y1 (by omega) (by simp; omega)
      have c0 : W.cell? ⟨w.heap.size, 0, none⟩ = some (.pointer (some ⟨b, 0, none⟩)) := by rw [cell_of_row _ _ _ _ _ _ hx0]; rfl
      have c1 : W.cell? ⟨w.heap.size + 1, 0, none⟩ = some (.int .i64 t) := by rw [cell_of_row _ _ _ _ _ _ hx1]; rfl
      have HKI := Lib.hid hKI
      have HLVP := Lib.hid hBI.gb
      clear hstp hlen hun hBI hKI hx0 hx1 y0 y1 x2 hsl hT0 hRA hgo hgn hgA hT HT hO HH
      gi_wp2_with (refine ⟨trivial, ?_⟩; gi_at_call 20; refine (callsIn_wide.2 HLV.out).mono ?_; rintro e w3 ⟨rfl, h1, h2⟩; have HR := Lib.hid (And.intro h1 h2); clear h1 h2)
      have hfr : Fr [b] W0 W := by
        have := HKI.out
        rw [← hsz] at this
        exact this.fr
      have hgb : P b := (HLVP.out).1
      have hK3 : w3.heap[D]? = some (.deferred (some [])) := (HR.out.2.block D (lt_of_heap hKD) (fun e => by have := e.2; omega)).trans hKD
      have hFW : FrP P w w3 := ((((FrP.refl P w).step fA (by simp)).step hfr (fun x hx => by simp only [List.mem_singleton] at hx; subst hx; exact .inl hgb))).trans HR.out.2 (fun x hx => .inl hx.1)
      refine ⟨by simp, .inl ⟨_, _, rfl, run_takeDeferred hK3, ?_⟩⟩
      have hsD : w.heap.size ≤ D := by omega
      have hgr := grownBy_putObj' w3 D (.deferred none)
      have hck : CellsKept w3 (w3.putObj D (.deferred none)) := CellsKept.of_grown (B := 0) hgr (fun r e => by cases e; exact ⟨Nat.zero_le _, _, hK3, rfl⟩)
      obtain ⟨q1, lv2, q2⟩ := HR.out.1
      have hsW : w.heap.size ≤ W.heap.size := Nat.le_trans fA.size hfr.size
      exact ⟨_, results_tmp rfl _ _ _, rfl, ⟨q1, lv2, (q2.cells hck).imp (fun k hk => hk.elim (fun h => .inl h.1) (fun h => .inr (Nat.le_trans hsW h)))⟩, hFW.step (S := [D]) ((Fr.refl [D] w3).grown hgr (fun g e => by cases e; exact .inl (by simp))) (fun x hx => by simp only [List.mem_singleton] at hx; subst hx; exact .inr hsD)⟩
    case stop =>
      rintro D k pre W _ _ h _
      exact h.elim
  · have HT := Lib.hid (fun W => un_turn_no ht W)
    have e1 : Un.turnErr t = 1 := if_neg ht
    have e2 : Un.undo d t = d := if_neg ht
    rw [e1, e2]
    clear ht h e1 e2
    refine (callsIn_wide (n := 8)).1 ?_
    refine callsIn_of_wp_marks Tryd.func8 rfl trivial ?_ rfl
    simp only [Tryd.ntmps8, List.size_toArray, List.length_cons, List.length_nil, Nat.reduceAdd, Nat.reduceSub, Array.replicate_succ, Array.replicate_zero, List.push_toArray, List.append_toArray, List.nil_append, List.cons_append]
    gi_wp2_with (refine ⟨trivial, ?_⟩; gi_at_call 19; refine (callsIn_wide.2 (HT.out _)).mono ?_; rintro e w2 ⟨rfl, rfl⟩)
    refine ⟨_, results_tmp rfl _ _ _, ?_⟩
    exact UnAns.none HH.out rfl (((Fr.refl [] w).alloc _).alloc _)
end Go.Proofs.YtmhmbgkpojgbbabDoor
