/- The contracts of package undo's leave and End. -/
import Derived.Test.YtmhmbgkpojgbbabDoorUnDel
namespace Go.Proofs.YtmhmbgkpojgbbabDoor
open Go.RowKit

/-- Whose blocks are, when the first k are free of t. -/
def Un.freeTo (t : Int) (l : List Int) : Nat → List Int
  | 0 => l
  | k + 1 => if nth l k = t then (Un.freeTo t l k).set k (-1) else Un.freeTo t l k
theorem Un.freeTo_len (t : Int) (l : List Int) : ∀ k, (Un.freeTo t l k).length = l.length
  | 0 => rfl
  | k + 1 => by unfold Un.freeTo; split <;> simp [Un.freeTo_len t l k]
theorem Un.freeTo_nth (t : Int) (l : List Int) (i : Nat) : ∀ k, k ≤ l.length → nth (Un.freeTo t l k) i = if i < k ∧ nth l i = t then -1 else nth l i
  | 0, _ => by unfold Un.freeTo; rw [if_neg (by omega)]
  | k + 1, h => by
    have ih := Un.freeTo_nth t l i k (by omega)
    unfold Un.freeTo
    split
    · rename_i hk
      rw [Un.nth_set _ _ _ _ (by rw [Un.freeTo_len]; omega), ih]
      by_cases e : k = i
      · subst e
        rw [if_pos rfl, if_pos ⟨by omega, hk⟩]
      · rw [if_neg e]
        by_cases h2 : i < k ∧ nth l i = t
        · rw [if_pos h2, if_pos ⟨by omega, h2.2⟩]
        · rw [if_neg h2, if_neg (fun h3 => h2 ⟨by omega, h3.2⟩)]
    · rename_i hk
      rw [ih]
      by_cases h2 : i < k ∧ nth l i = t
      · rw [if_pos h2, if_pos ⟨by omega, h2.2⟩]
      · rw [if_neg h2]
        by_cases e : i = k
        · subst e
          rw [if_neg (fun h3 => hk h3.2)]
        · rw [if_neg (fun h3 => h2 ⟨by omega, h3.2⟩)]
theorem Un.freeTo_all (t : Int) (l : List Int) : Un.freeTo t l l.length = Un.free t l := by
  refine Un.eq_nth (by rw [Un.freeTo_len]; simp [Un.free]) (fun j hj => ?_)
  rw [Un.freeTo_len] at hj
  rw [Un.freeTo_nth _ _ _ _ (Nat.le_refl _), Un.nth_free _ _ _ hj]
  by_cases h : nth l j = t
  · rw [if_pos ⟨hj, h⟩, if_pos h]
  · rw [if_neg (fun h2 => h h2.2), if_neg h]
theorem Un.freeTo_at (t : Int) (l : List Int) (k : Nat) (hk : k < l.length) : nth (Un.freeTo t l k) k = nth l k := by
  rw [Un.freeTo_nth _ _ _ _ (by omega), if_neg (by omega)]
set_option maxRecDepth 100000 in
set_option maxHeartbeats 2000000 in
theorem un_leave (w : World) (P : Nat → Prop) (b : Nat) (d : Un.D) (t : Int) (h : UnF P w b d) (ht : Un.okT t) :
    Calls Tryd.prog 20 #[.pointer (some ⟨b, 0, none⟩), .int .i64 t] w (UnAns P b (.tuple #[]) (Un.leave d t) w) := by
  obtain ⟨hO, lv, hB⟩ := h
  have HOK := Lib.hid (Un.leave_ok hO ht)
  obtain ⟨A, c, rfl⟩ := hB.form
  have HL := Lib.hid (And.intro hO.blk hO.busy)
  have hn60 := hO.len
  have hlt := hB.lt
  have HF1 : Hid (Fr [] w (w.alloc (.cells #[.int .i64 t] 3))) := (Fr.refl _ _).alloc _
  have HX1 : Hid ((w.alloc (.cells #[.int .i64 t] 3)).heap[w.heap.size]? = some (.cells #[.int .i64 t] 3 (0, 0))) := heap_alloc_new w _
  have HB1 : Hid (UnB P (w.alloc (.cells #[.int .i64 t] 3)) b (.slice A d.was.length c) d) := hB.keep HF1.out
  obtain ⟨g, hRA, hgo, hgn, hcl, hcm⟩ := RwP.of HB1.out.row
  have hgd : g ≠ w.heap.size + 0 ∨ A = none := by
    cases A with
    | none => exact .inr rfl
    | some a => exact .inl (by have := hlt.2 g (by rw [hgo]; rfl); omega)
  -- the row's own block, or one that is none
  obtain ⟨g, hRA, hg1, hg2, hg3⟩ : ∃ g, RwP (w.alloc (.cells #[.int .i64 t] 3)) A g c d.was ∧ g ≠ w.heap.size ∧ g ≠ b ∧ OrNew P w g := by
    cases A with
    | none =>
      have h1 := hgn rfl
      have hs : (w.alloc (.cells #[.int .i64 t] 3)).heap.size = w.heap.size + 1 := by simp
      exact ⟨g, hRA, by omega, by omega, .inr (by omega)⟩
    | some a =>
      have h1 := hlt.2 g (by rw [hgo]; rfl)
      have h2 := hB.ne2
      rw [hgo] at h2
      exact ⟨g, hRA, by omega, by simpa using h2, .inl (hB.gl g (by rw [hgo]; rfl))⟩
  have HDL := Lib.hid (un_del _ A g c d.was w.heap.size t hRA (show UnC _ _ _ from by unfold UnC; rw [cell_of_row _ _ _ _ _ _ HX1.out]; rfl) hn60 hcm hg1)
  have HRD : Hid (∀ W, Fr [g] (w.alloc (.cells #[.int .i64 t] 3)) W → W.cell? ⟨b, 8, none⟩ = some (.slice A d.was.length c) ∧ W.frozen? ⟨b, 8, none⟩ = false ∧ W.heap[w.heap.size]? = some (.cells #[.int .i64 t] 3 (0, 0))) := fun W hW => by
    have q1 := hW.get HB1.out.file (by simp; omega)
    exact ⟨by rw [cell_of_row W b _ _ _ _ q1]; exact unRow_was HL.out.1, free_block q1 8 none, hW.get HX1.out (by simp; omega)⟩
  obtain ⟨c8, hf8, -⟩ := HRD.out _ (Fr.refl _ _)
  have HGB := Lib.hid hB.gb
  have hbl := hlt.1
  clear hO hB hRA hgd hgo hgn hlt
  go_enter Tryd.func20, Tryd.ntmps20
  go_wp2_with fail
  revert HF1 HX1 HB1 HDL HRD c8 hf8
  generalize (w.alloc (.cells #[.int .i64 t] 3)) = w1
  generalize hX : w.heap.size = X at *
  intro HF1 HX1 HB1 HDL HRD c8 hf8
  refine useC HDL.out ?_
  rintro e w2 ⟨rfl, hf, hra⟩
  obtain ⟨q0, q1, q2⟩ := HRD.out w2 hf
  have hob : ∀ x, (Value.slice A (d.was.filter (Un.stay t)).length c).ownBlock = some x → x = g := fun x hx => by
    rcases hra with ⟨rfl, _, _⟩ | ⟨rfl, _⟩
    · cases hx
    · injection hx with hx; exact hx.symm
  have HB3 := Lib.hid (HB1.out.newWas (P' := OrNew P w) HL.out.1 hf (by simp; omega) (hra.own hcm) (fun e => hg2 (hob b e).symm) (fun _ h => .inl h) (fun x hx => by rw [hob x hx]; exact hg3))
  have HP3 : Hid (FrP P w (w2.setCell ⟨b, 8, none⟩ (.slice A (d.was.filter (Un.stay t)).length c))) := (((FrP.refl P w).step HF1.out (by simp)).step hf (fun x hx => by simp only [List.mem_singleton] at hx; subst hx; exact hg3)).step ((Fr.refl [b] w2).setCell (.inl (by simp)) _) (fun x hx => by simp only [List.mem_singleton] at hx; subst hx; exact .inl HGB.out)
  have HX3 : Hid ((w2.setCell ⟨b, 8, none⟩ (.slice A (d.was.filter (Un.stay t)).length c)).heap[X]? = some (.cells #[.int .i64 t] 3 (0, 0))) := (UnB.one w2 b 8 _).get q2 (by simp; omega)
  clear q2 hra hob hf HDL HRD c8 hf8
  go_wp2_with (refine wpList_store_one rfl 26 _ _ rfl b 8 (.slice A (d.was.filter (Un.stay t)).length c) (.slice A d.was.length c) rfl rfl (by kernel_rfl) rfl rfl q0 q1 ?_; intro w3 hw3; rw [← hw3] at HB3 HP3 HX3; clear hw3 q0 q1)
  generalize hwas : d.was.filter (Un.stay t) = was' at *
  have HWA := Lib.hid hwas
  have HFA := Lib.hid (Un.freeTo_all t d.busy)
  have HFL := Lib.hid (Un.freeTo_len t d.busy)
  clear hwas
  go_loopw [14] (fun i wr => ∃ k : Nat, k ≤ 8 ∧ i = .int .i64 k ∧ Hid (UnB (OrNew P w) wr b (.slice A was'.length c) ⟨d.blk, was', Un.freeTo t d.busy k⟩) ∧ Hid (FrP P w wr) ∧ Hid (wr.heap[X]? = some (.cells #[.int .i64 t] 3 (0, 0)))) (fun i _ => 8 - (intOf i).toNat)
  case atStart => exact ⟨0, Nat.zero_le _, rfl, HB3, HP3, HX3⟩
  case round =>
    clear HB3 HP3 HX3
    obtain ⟨k, hk, rfl, hB, hP, hX3⟩ := hrel
    by_cases hlt : k < 8
    · have hkI : (k : Int) < 8 := by omega
      have cb := hB.out.busy HL.out.1 (i := k) (by show k < (Un.freeTo t d.busy k).length; rw [HFL.out, HL.out.2]; exact hlt)
      have hfz := hB.out.free (9 + k)
      have cx : wr.cell? ⟨X, 0, none⟩ = some (.int .i64 t) := by rw [cell_of_row wr X _ _ _ _ hX3.out]; rfl
      dsimp only at cb
      rw [Un.freeTo_at _ _ _ (by rw [HL.out.2]; exact hlt)] at cb
      have hbw := hB.out.lt.1
      have hs : Un.freeTo t d.busy (k + 1) = if nth d.busy k = t then (Un.freeTo t d.busy k).set k (-1) else Un.freeTo t d.busy k := rfl
      have HSP := Lib.hid hs
      clear hs
      by_cases hy : nth d.busy k = t
      · have HS2 := Lib.hid (HSP.out.trans (if_pos hy))
        have hyb : (nth d.busy k == t) = true := by simpa using hy
        have HB4 := Lib.hid ((hB.out.keep ((Fr.refl [] wr).drew)).setBusy HL.out.1 k (-1))
        have HP4 : Hid (FrP P w (wr.drew.setCell ⟨b, 9 + k, none⟩ (.int .i64 (-1)))) := hP.out.step (((Fr.refl [b] wr).drew).setCell (.inl (by simp)) _) (fun x hx => by simp only [List.mem_singleton] at hx; subst hx; exact .inl HGB.out)
        have HX4 : Hid ((wr.drew.setCell ⟨b, 9 + k, none⟩ (.int .i64 (-1))).heap[X]? = some (.cells #[.int .i64 t] 3 (0, 0))) := (UnB.one wr.drew b (9 + k) _).get hX3.out (by simp; omega)
        clear hy HSP
        generalize nth d.busy k = y at *
        go_wp2_with fail
        (refine wp_region_mixq 7 [(true, 0), (true, 1), (true, 2), (true, 3), (true, 4), (true, 5), (true, 6)] (by kernel_rfl) (by kernel_rfl) ?_; simp only [pickOps, List.map_cons, List.map_nil, List.getD_cons_zero, List.getD_cons_succ, List.drop_succ_cons, List.drop_zero]; (iterate 7 (first | (refine wpMix_take (v := ?_) (by rfl) ?_ ?_; rotate_left; (focus (intro W hW; subst hW; go_simp; (try with_reducible rfl); done)); try simp only [Act.put, List.setIfInBounds_toArray, List.set_cons_zero, List.set_cons_succ]) | (refine wpMix_leave (by rfl) ?_; try simp only [Act.put, List.setIfInBounds_toArray, List.set_cons_zero, List.set_cons_succ]))); refine wpMix_nil ?_)
        go_wp2
        go_roundw
        case rel => exact ⟨k + 1, by omega, by go_num, by show UnB _ _ _ _ _; rw [HS2.out]; exact HB4.out, HP4, HX4⟩
        case measure => simp [intOf]; omega
      · have HS2 := Lib.hid (HSP.out.trans (if_neg hy))
        have hyb : (nth d.busy k == t) = false := by simpa using hy
        clear HSP
        generalize nth d.busy k = y at *
        go_wp2_with fail
        (refine wp_region_mixq 7 [(true, 0), (true, 1), (true, 2), (true, 3), (true, 4), (true, 5), (true, 6)] (by kernel_rfl) (by kernel_rfl) ?_; simp only [pickOps, List.map_cons, List.map_nil, List.getD_cons_zero, List.getD_cons_succ, List.drop_succ_cons, List.drop_zero]; (iterate 7 (first | (refine wpMix_take (v := ?_) (by rfl) ?_ ?_; rotate_left; (focus (intro W hW; subst hW; go_simp; (try with_reducible rfl); done)); try simp only [Act.put, List.setIfInBounds_toArray, List.set_cons_zero, List.set_cons_succ]) | (refine wpMix_leave (by rfl) ?_; try simp only [Act.put, List.setIfInBounds_toArray, List.set_cons_zero, List.set_cons_succ]))); refine wpMix_nil ?_)
        go_wp2
        go_roundw
        case rel => exact ⟨k + 1, by omega, by go_num, by show UnB _ _ _ _ _; rw [HS2.out]; exact hB.out.keep ((Fr.refl [] wr).drew), hP.out.step ((Fr.refl [] wr).drew) (by simp), hX3⟩
        case measure => simp [intOf]; omega
    · have hke : k = 8 := by omega
      have hkI : ¬ (k : Int) < 8 := by omega
      have HBE : Hid (UnB (OrNew P w) wr b (.slice A was'.length c) (Un.leave d t)) := by
        have := hB.out
        rw [hke, ← HL.out.2, HFA.out, ← HWA.out] at this
        rw [← HWA.out]
        exact this
      clear hke hlt
      go_wp2
      go_returns
      exact ⟨rfl, ⟨HOK.out, _, HBE.out⟩, hP.out⟩
theorem un_End (w : World) (P : Nat → Prop) (b : Nat) (d : Un.D) (t : Int) (h : UnF P w b d) :
    Calls Tryd.prog 7 #[.pointer (some ⟨b, 0, none⟩), .int .i64 t] w (UnAns P b (errV (Un.turnErr t)) (Un.end_ d t) w) := by
  have HH := Lib.hid h
  by_cases ht : Un.okT t
  · have HT := Lib.hid (fun W => un_turn_ok ht W)
    have HLV := Lib.hid (un_leave w P b d t h ht)
    have e1 : Un.turnErr t = 0 := if_pos ht
    have e2 : Un.end_ d t = Un.leave d t := if_pos ht
    rw [e1, e2]
    clear ht h e1 e2
    go_enter Tryd.func7, Tryd.ntmps7
    go_wp2_with (first
      | (go_at_call 19; (with_reducible refine useC (HT.out _) ?_); rintro e w2 ⟨rfl, rfl⟩)
      | (go_at_call 20; (with_reducible refine useC HLV.out ?_); rintro e w3 ⟨rfl, h1, h2⟩; have HR := Lib.hid (And.intro h1 h2); clear h1 h2))
    go_ret
    exact ⟨rfl, HR.out.1, HR.out.2⟩
  · have HT := Lib.hid (fun W => un_turn_no ht W)
    have e1 : Un.turnErr t = 1 := if_neg ht
    have e2 : Un.end_ d t = d := if_neg ht
    rw [e1, e2]
    clear ht h e1 e2
    go_enter Tryd.func7, Tryd.ntmps7
    go_wp2_with (go_at_call 19; (with_reducible refine useC (HT.out _) ?_); rintro e w2 ⟨rfl, rfl⟩)
    go_ret
    exact UnAns.none HH.out rfl (Fr.refl _ _)
end Go.Proofs.YtmhmbgkpojgbbabDoor
