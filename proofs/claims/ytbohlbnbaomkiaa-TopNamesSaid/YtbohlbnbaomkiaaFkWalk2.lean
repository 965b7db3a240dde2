/- The contract of package fsck's Faults. -/
import Derived.Test.YtbohlbnbaomkiaaFkWalk
import Derived.Deep.OwnRows
namespace Go.Proofs.Ytbohlbnbaomkiaa
open Go.RowKit

/-- make([]int, n). -/
theorem make_ints (n : Nat) (hn : n ≤ 1000) (W : World) : (Instr.makeSlice 22 (.int .i64 n) (.int .i64 n)).run Try.prog W = .ok (.slice (some ⟨W.heap.size, 0, none⟩) n n) (W.alloc (.cells (ints (List.replicate n 0)) 3)) := by
  have h := run_make_row' (P := Try.prog) 22 3 (.int .i64 0) 8 Try.underlying22 Try.info_int rfl .i64 .i64 n (by omega) (by omega) W
  rw [show madeCells #[Value.int .i64 0] n = ints (List.replicate n 0) from by
    apply Array.ext'
    rw [toList_madeCells_one, ints_toList, List.map_replicate]] at h
  exact h
/-- A row of small integers of the call's own: one more. -/
theorem Own.wide {w : World} {B B' e : Nat} {v : Value} {xs : List Int} (h : Own w B e v xs) (hB : B' ≤ B) : Own w B' e v xs := by
  obtain ⟨h1, h2⟩ := h
  refine ⟨h1, ?_⟩
  rcases h2 with h2 | ⟨g, cap, cur, rfl, hb, r⟩
  · exact .inl h2
  · exact .inr ⟨g, cap, cur, rfl, Nat.le_trans hB hb, r⟩
theorem Own.fr {S : List Nat} {w w' : World} {B e : Nat} {v : Value} {xs : List Int} (h : Own w B e v xs) (hf : Fr S w w') (hS : ∀ g ∈ S, g < B) : Own w' B e v xs :=
  h.kept hf (fun g hg e => by have := (h.ge g e).1; have := hS g hg; omega)
namespace Fk
def names (E : List (Int × Int)) (k : Nat) : List Int := (E.take k).map (·.1)
theorem seen_has (E : List (Int × Int)) (k : Nat) (x : Int) : hasB (names E k) x = seen E k x := by
  unfold hasB names seen
  rw [Bool.eq_iff_iff, List.contains_iff_mem, List.mem_map, List.any_eq_true]
  constructor
  · rintro ⟨e, h1, h2⟩; exact ⟨e, h1, by simpa using h2⟩
  · rintro ⟨e, h1, h2⟩; exact ⟨e, h1, by simpa using h2⟩
theorem names_step (E : List (Int × Int)) (k : Nat) (hk : k < E.length) : names E (k + 1) = names E k ++ [entN E k] := by
  unfold names entN
  rw [List.take_succ_eq_append_getElem hk, List.map_append]
  simp [List.getD, hk]
theorem ent_ok {E : List (Int × Int)} (h : okE E = true) {k : Nat} (hk : k < E.length) : 0 ≤ entN E k ∧ entN E k ≤ 1000 ∧ 0 ≤ entI E k ∧ entI E k ≤ 1000 := by
  have := ent_bounds E h E[k] (List.getElem_mem _)
  unfold entN entI
  rw [show E.getD k (0, 0) = E[k] by simp [List.getD, hk]]
  exact this
theorem wrong_seen {C : List Int} {E : List (Int × Int)} {k : Nat} (h : seen E k (entN E k) = true) : wrong C E k = true := by unfold wrong; rw [h]; rfl
theorem wrong_used {C : List Int} {E : List (Int × Int)} {k : Nat} (h : seen E k (entN E k) = false) : wrong C E k = !used C (entI E k) := by unfold wrong; rw [h]; rfl
end Fk
/-- What Faults hands back of an image that may be. -/
def FaultsAns (C : List Int) (E : List (Int × Int)) (w : World) (e : Ending) (w' : World) : Prop :=
  ∃ v1 v2, e = .returned (.tuple #[v1, v2, .nilIface]) ∧ Own w' w.heap.size 3 v1 (Fk.faults1 C E) ∧ Own w' w.heap.size 3 v2 (Fk.faults2 C E) ∧ Fr [] w w'
theorem ent_cells {w : World} {B : Nat} {a b : Value} (h : w.heap[B]? = some (.cells #[a, b] 36 (0, 0))) : w.cell? ⟨B, 0, none⟩ = some a ∧ w.cell? ⟨B, 1, none⟩ = some b := by
  constructor <;> rw [cell_of_row w B _ _ _ _ h] <;> rfl
/-- What the loops of Faults know of memory. -/
structure FkSt (w wr : World) (mb nb n : Nat) (L N : List Int) : Prop where
  set : St wr mb n L
  row : wr.heap[nb]? = some (.cells (ints N) 3 (0, 0))
  fr : Fr [] w wr
  hm : w.heap.size ≤ mb
  hn : mb < nb
theorem FkSt.step {w wr w' : World} {mb nb n : Nat} {L N : List Int} (h : FkSt w wr mb nb n L N) (hf : Fr [] wr w') : FkSt w w' mb nb n L N := ⟨h.set.fr hf (by simp), hf.get h.row (by simp), h.fr.trans hf, h.hm, h.hn⟩
theorem FkSt.bel {w wr w' : World} {mb nb n : Nat} {L N : List Int} (h : FkSt w wr mb nb n L N) (hb : Below (nb + 1) wr w') : FkSt w w' mb nb n L N := by
  have h1 := h.hm
  have h2 := h.hn
  refine ⟨?_, (hb.block nb (by omega)).trans h.row, h.fr.below_step hb (by omega), h.hm, h.hn⟩
  obtain ⟨es, clock, h0, r⟩ := h.set
  exact ⟨es, clock, (hb.block mb (by omega)).trans h0, r⟩
theorem FkSt.add {w wr w' : World} {mb nb n n' : Nat} {L L' N : List Int} (h : FkSt w wr mb nb n L N) (hs : St w' mb n' L') (hf : Fr [mb] wr w') : FkSt w w' mb nb n' L' N :=
  ⟨hs, hf.get h.row (by have := h.hn; simp; omega), h.fr.step hf (fun x hx => .inr (by simp only [List.mem_singleton] at hx; subst hx; exact h.hm)), h.hm, h.hn⟩
theorem FkSt.put {w wr : World} {mb nb n : Nat} {L N : List Int} (h : FkSt w wr mb nb n L N) (i : Nat) (x : Int) : FkSt w (wr.setCell ⟨nb, i, none⟩ (.int .i64 x)) mb nb n L (N.set i x) := by
  have hf : Fr [nb] wr (wr.setCell ⟨nb, i, none⟩ (.int .i64 x)) := (Fr.refl _ wr).setCell (.inl (by simp)) _
  have h1 := h.hm
  have h2 := h.hn
  exact ⟨h.set.fr hf (by simp; omega), set_ints h.row x, h.fr.step hf (fun x hx => .inr (by simp only [List.mem_singleton] at hx; subst hx; omega)), h.hm, h.hn⟩
set_option maxRecDepth 100000 in
set_option maxHeartbeats 1000000 in
theorem fk_Faults_bad (w : World) (v : Value) (C : List Int) (E : List (Int × Int)) (hv : ImV w v C E) (hbad : Fk.check C E ≠ 0) :
    Calls Try.prog 9 #[v] w fun e w' => e = .returned (.tuple #[.slice none 0 0, .slice none 0 0, .iface 63 (.int .i64 (Fk.check C E))]) ∧ Fr [] w w' := by
  have HV := Lib.hid (fun W (hW : Fr [] w W) => hv.fr hW)
  obtain ⟨c, e, g1, g2, rfl, hC, hE⟩ := hv
  obtain ⟨A1, o1, c1, rfl, m1, hA1, hc1⟩ := hC.form
  obtain ⟨A2, o2, c2, rfl, m2, hA2, hc2⟩ := hE.formE
  have HF : Hid (Fr [] w (w.alloc (.cells #[.slice A1 C.length c1, .slice A2 E.length c2] 25))) := (Fr.refl _ _).alloc _
  have HB := Lib.hid (im2_new w (.slice A1 C.length c1) (.slice A2 E.length c2))
  obtain ⟨d0, d1⟩ := HB.out.cells
  have HN := Lib.hid (errV_no hbad)
  clear hC hE hA1 hc1 hA2 hc2 hbad
  go_enter Try.func9, Try.ntmps9
  go_wp2_with (go_at_call 25; (with_reducible refine useC (fk_Check _ _ C E (HV.out _ HF.out)) ?_); rw [HN.out]; rintro e w2 ⟨rfl, hf⟩; have HF2 := Lib.hid (HF.out.trans hf); clear hf)
  go_ret3
  exact ⟨rfl, HF2.out⟩
set_option maxRecDepth 100000 in
set_option maxHeartbeats 4000000 in
theorem fk_Faults_ok (w : World) (v : Value) (C : List Int) (E : List (Int × Int)) (hv : ImV w v C E) (hok : Fk.check C E = 0) :
    Calls Try.prog 9 #[v] w (FaultsAns C E w) := by
  have HV := Lib.hid (fun W (hW : Fr [] w W) => hv.fr hW)
  obtain ⟨c, e, g1, g2, rfl, hC, hE⟩ := hv
  obtain ⟨A1, o1, c1, rfl, m1, hA1, hc1⟩ := hC.form
  obtain ⟨A2, o2, c2, rfl, m2, hA2, hc2⟩ := hE.formE
  obtain ⟨h8, h12, hoc, hoe⟩ := Fk.check_ok hok
  have HA1 := Lib.hid hA1
  have HA2 := Lib.hid hA2
  have HE := Lib.hid (fun W (hW : Fr [] w W) k (hk : k < E.length) => And.intro (hW.cell (hc2 k hk).1 (by simp)) (hW.cell (hc2 k hk).2 (by simp)))
  have HC := Lib.hid (fun W (hW : Fr [] w W) k (hk : k < C.length) => hW.cell (hc1 k hk) (by simp))
  have HF : Hid (Fr [] w (w.alloc (.cells #[.slice A1 C.length c1, .slice A2 E.length c2] 25))) := (Fr.refl _ _).alloc _
  have HB := Lib.hid (im2_new w (.slice A1 C.length c1) (.slice A2 E.length c2))
  have HOK := Lib.hid hoe
  have HN : Hid (errV (Fk.check C E) = .nilIface) := by show _ = _; rw [hok]; rfl
  obtain ⟨d0, d1⟩ := HB.out.cells
  have hmk := make_ints C.length (by omega)
  have hmm := @run_makeMap Try.prog
  clear hC hE hA1 hc1 hA2 hc2 hok hoc hoe
  go_enter Try.func9, Try.ntmps9
  go_wp2_with fail
  revert HF HB d0 d1
  generalize (w.alloc (.cells #[.slice A1 C.length c1, .slice A2 E.length c2] 25)) = w1
  intro HF HB d0 d1
  refine useC (fk_Check w1 _ C E (HV.out _ HF.out)) ?_
  rw [HN.out]
  rintro e w2 ⟨rfl, hf⟩
  have HF2 := Lib.hid (HF.out.trans hf)
  have HB2 : Hid (Im2 w2 w.heap.size (.slice A1 C.length c1) (.slice A2 E.length c2)) := hf.get HB.out (by simp)
  have hB2 := lt_of_heap HB2.out
  clear d0 d1 hf
  obtain ⟨d0, d1⟩ := HB2.out.cells
  generalize hBe : w.heap.size = B at *
  have HBE := Lib.hid hBe
  clear hBe
  go_wp2
  have HS : Hid (FkSt w2 ((w2.alloc (.map #[] 0)).alloc (.cells (ints (List.replicate C.length 0)) 3)) w2.heap.size (w2.heap.size + 1) 0 (Fk.names E 0) (Fk.nms C E 0)) := by
    have e1 : Fk.nms C E 0 = List.replicate C.length 0 := by
      unfold Fk.nms Fk.nm
      simp [List.map_const']
    have h2 := heap_alloc_new (w2.alloc (.map #[] 0)) (.cells (ints (List.replicate C.length 0)) 3)
    rw [show (w2.alloc (.map #[] 0)).heap.size = w2.heap.size + 1 by simp] at h2
    rw [e1]
    exact ⟨(SetI.made w2 _ _ _).fr ((Fr.refl [] _).alloc _) (by simp), h2, ((Fr.refl [] w2).alloc _).alloc _, Nat.le_refl _, Nat.lt_succ_self _⟩
  revert HS
  generalize ((w2.alloc (.map #[] 0)).alloc (.cells (ints (List.replicate C.length 0)) 3)) = w3
  generalize hmb : w2.heap.size = mb
  generalize hnb : mb + 1 = nb
  intro HS
  have HMB := Lib.hid hmb
  have hmn : mb < nb := by omega
  have hBm : B < mb := by omega
  clear hmb hnb
  have hnlen := fun n => (Fk.nms_len C E n)
  have HNL := Lib.hid hnlen
  have HWL := Lib.hid (fun n => Fk.wr_len C E n)
  clear hnlen d0 d1
  go_loopw [2, 26] (fun v i wr => ∃ k : Nat, k ≤ E.length ∧ i = .int .i64 k ∧ Hid (Own wr (nb + 1) 3 v (Fk.wr C E k)) ∧ Hid (FkSt w2 wr mb nb k (Fk.names E k) (Fk.nms C E k))) (fun _ i _ => E.length - (intOf i).toNat)
  case atStart => exact ⟨0, Nat.zero_le _, rfl, Own.nil _ _ _, HS⟩
  case round =>
    obtain ⟨k, hk, rfl, hO, hS⟩ := hrel
    by_cases hlt : k < E.length
    · obtain rfl := HA2.out (by omega)
      have hFw := HF2.out.trans hS.out.fr
      obtain ⟨q0, q1⟩ := HE.out wr hFw k hlt
      obtain ⟨b1, b2, b3, b4⟩ := Fk.ent_ok HOK.out hlt
      have hszr : nb < wr.heap.size := lt_of_heap hS.out.row
      have hkey : I64 (entN E k) := by unfold I64; omega
      have HKEY := Lib.hid hkey
      have HNS := Lib.hid (Fk.names_step E k hlt)
      have HWS := Lib.hid (Fk.wr_step C E k)
      have HSH := Lib.hid (Fk.seen_has E k (entN E k))
      have HSA : Hid (FkSt w2 (wr.alloc (.cells #[.int .i64 (entN E k), .int .i64 (entI E k)] 36)) mb nb k (Fk.names E k) (Fk.nms C E k)) := hS.out.step ((Fr.refl [] wr).alloc _)
      have HV2 : Hid ((wr.alloc (.cells #[.int .i64 (entN E k), .int .i64 (entI E k)] 36)).heap[wr.heap.size]? = some (.cells #[.int .i64 (entN E k), .int .i64 (entI E k)] 36 (0, 0))) := heap_alloc_new wr _
      have HOA : Hid (Own (wr.alloc (.cells #[.int .i64 (entN E k), .int .i64 (entI E k)] 36)) (nb + 1) 3 u2 (Fk.wr C E k)) := hO.out.alloc _
      have hvn : wr.heap.size ∉ [mb] := by simp; omega
      have hk12 : k ≤ 1000 := by omega
      clear hkey hFw
      obtain ⟨n, hn⟩ : ∃ n : Nat, entI E k = n := ⟨(entI E k).toNat, by omega⟩
      have HN2 := Lib.hid hn
      cases hse : Fk.seen E k (entN E k) with
      | true =>
        have hw := Lib.hid (Fk.wrong_seen (C := C) hse)
        have HHB := Lib.hid (HSH.out.trans hse)
        have HNM := Lib.hid (Fk.nms_wrong C E k hw.out)
        clear hse hn
        go_wp2_with (first
          | (go_at_call 26; (with_reducible refine useC (set_Add _ mb k _ _ HSA.out.set HKEY.out (by omega)) ?_); rw [HHB.out]; rintro e w4 ⟨rfl, hs4, hf4⟩; have H4 : Hid (FkSt w2 w4 mb nb (k + 1) (Fk.names E (k + 1)) (Fk.nms C E (k + 1))) := (by show FkSt _ _ _ _ _ _ _; rw [HNS.out, HNM.out]; exact HSA.out.add hs4 hf4); have HO4 : Hid (Own w4 (nb + 1) 3 u2 (Fk.wr C E k)) := HOA.out.fr hf4 (by simp; omega); have hsz4 : nb < w4.heap.size := lt_of_heap H4.out.row; clear hs4 hf4)
          | (at_builtin; refine wpList_push_int Try.intT rfl _ _ rfl (nb + 1) _ _ rfl HO4.out rfl (by have := HWL.out k; omega) (by omega) ?_; intro v' w5 h1 _ h3; have H5 := Lib.hid (H4.out.bel h3); have HO5 := Lib.hid h1; clear h1 h3))
        go_roundw
        case rel => exact ⟨k + 1, by omega, by go_num, by show Own _ _ _ _ _; rw [HWS.out, if_pos hw.out]; exact HO5.out, H5⟩
        case measure => simp [intOf]; omega
      | false =>
        have HHB := Lib.hid (HSH.out.trans hse)
        have hwu := Lib.hid (Fk.wrong_used (C := C) hse)
        clear hse
        rw [hn] at HV2 HSA HOA q1
        by_cases hin : n < C.length
        · have hin' : ¬ (C.length : Int) ≤ (n : Int) := by omega
          have hin2 : (n : Int) < C.length := by omega
          have hin3 : (0 : Int) ≤ (n : Int) := by omega
          obtain rfl := HA1.out (by omega)
          by_cases hz : nth C n = 0
          · have hw := Lib.hid (show Fk.wrong C E k = true from by rw [hwu.out, HN2.out]; unfold Fk.used; rw [Int.toNat_natCast, hz]; simp)
            have HNM := Lib.hid (Fk.nms_wrong C E k hw.out)
            have HCC : Hid (∀ W, Fr [] w W → W.cell? ⟨g1, o1 + n, none⟩ = some (.int .i64 0)) := fun W hW => by rw [HC.out W hW n hin, hz]
            clear hn hz
            go_wp2_with (first
              | (go_at_call 26; (with_reducible refine useC (set_Add _ mb k _ _ HSA.out.set HKEY.out (by omega)) ?_); rw [HHB.out]; rintro e w4 ⟨rfl, hs4, hf4⟩; have H4 : Hid (FkSt w2 w4 mb nb (k + 1) (Fk.names E (k + 1)) (Fk.nms C E (k + 1))) := (by show FkSt _ _ _ _ _ _ _; rw [HNS.out, HNM.out]; exact HSA.out.add hs4 hf4); have HO4 : Hid (Own w4 (nb + 1) 3 u2 (Fk.wr C E k)) := HOA.out.fr hf4 (by simp; omega); have hsz4 : nb < w4.heap.size := lt_of_heap H4.out.row; obtain ⟨p0, p1⟩ := ent_cells (hf4.get HV2.out hvn); obtain ⟨i0, i1⟩ := Im2.cells (H4.out.fr.get HB2.out (by simp)); have c0 := HCC.out w4 (HF2.out.trans H4.out.fr); clear hs4 hf4)
              | (at_builtin; refine wpList_push_int Try.intT rfl _ _ rfl (nb + 1) _ _ rfl HO4.out rfl (by have := HWL.out k; omega) (by omega) ?_; intro v' w5 h1 _ h3; have H5 := Lib.hid (H4.out.bel h3); have HO5 := Lib.hid h1; clear h1 h3))
            go_roundw
            case rel => exact ⟨k + 1, by omega, by go_num, by show Own _ _ _ _ _; rw [HWS.out, if_pos hw.out]; exact HO5.out, H5⟩
            case measure => simp [intOf]; omega
          · have hzb : (nth C n == 0) = false := by simpa using hz
            have hwf := Lib.hid (show Fk.wrong C E k = false from by rw [hwu.out, HN2.out]; unfold Fk.used; rw [Int.toNat_natCast, hzb, decide_eq_true hin2]; rfl)
            have HNR := Lib.hid (Fk.nms_right C E k hwf.out n hin hn)
            have hnn := Fk.nm_nonneg C E k n
            have HNN := Lib.hid (Fk.nms_nth C E k n hin)
            have HCC : Hid (∀ W, Fr [] w W → W.cell? ⟨g1, o1 + n, none⟩ = some (.int .i64 (nth C n))) := fun W hW => HC.out W hW n hin
            rw [← HNN.out] at hnn
            obtain ⟨n1, n2⟩ := hnn
            have HROW := Lib.hid (fun W (hW : FkSt w2 W mb nb (k + 1) (Fk.names E (k + 1)) (Fk.nms C E k)) => And.intro (cell_ints (i := n) hW.row (by rw [HNL.out]; exact hin)) (free_block hW.row n none))
            clear hn hz HNN
            generalize nth C n = cn at *
            generalize hy : nth (Fk.nms C E k) n = y at *
            clear hy
            go_wp2_with (first
              | (go_at_call 26; (with_reducible refine useC (set_Add _ mb k _ _ HSA.out.set HKEY.out (by omega)) ?_); rw [HHB.out]; rintro e w4 ⟨rfl, hs4, hf4⟩; have H4 : Hid (FkSt w2 w4 mb nb (k + 1) (Fk.names E (k + 1)) (Fk.nms C E k)) := (by show FkSt _ _ _ _ _ _ _; rw [HNS.out]; exact HSA.out.add hs4 hf4); have HO4 : Hid (Own w4 (nb + 1) 3 u2 (Fk.wr C E k)) := HOA.out.fr hf4 (by simp; omega); have hsz4 : nb < w4.heap.size := lt_of_heap H4.out.row; obtain ⟨p0, p1⟩ := ent_cells (hf4.get HV2.out hvn); obtain ⟨i0, i1⟩ := Im2.cells (H4.out.fr.get HB2.out (by simp)); have c0 := HCC.out w4 (HF2.out.trans H4.out.fr); obtain ⟨r0, r1⟩ := HROW.out w4 H4.out; clear hs4 hf4))
            go_roundw
            case rel => exact ⟨k + 1, by omega, by go_num, by show Own _ _ _ _ _; rw [HWS.out, if_neg (by rw [hwf.out]; decide)]; exact HO4.out.fr ((Fr.refl [nb] w4).setCell (.inl (by simp)) _) (by simp), by show FkSt _ _ _ _ _ _ _; rw [HNR.out]; exact H4.out.put n _⟩
            case measure => simp [intOf]; omega
        · have hin' : (C.length : Int) ≤ (n : Int) := by omega
          have hw := Lib.hid (show Fk.wrong C E k = true from by rw [hwu.out, HN2.out]; unfold Fk.used; rw [decide_eq_false (by omega)]; rfl)
          have HNM := Lib.hid (Fk.nms_wrong C E k hw.out)
          clear hn
          go_wp2_with (first
            | (go_at_call 26; (with_reducible refine useC (set_Add _ mb k _ _ HSA.out.set HKEY.out (by omega)) ?_); rw [HHB.out]; rintro e w4 ⟨rfl, hs4, hf4⟩; have H4 : Hid (FkSt w2 w4 mb nb (k + 1) (Fk.names E (k + 1)) (Fk.nms C E (k + 1))) := (by show FkSt _ _ _ _ _ _ _; rw [HNS.out, HNM.out]; exact HSA.out.add hs4 hf4); have HO4 : Hid (Own w4 (nb + 1) 3 u2 (Fk.wr C E k)) := HOA.out.fr hf4 (by simp; omega); have hsz4 : nb < w4.heap.size := lt_of_heap H4.out.row; obtain ⟨p0, p1⟩ := ent_cells (hf4.get HV2.out hvn); obtain ⟨i0, i1⟩ := Im2.cells (H4.out.fr.get HB2.out (by simp)); skip; clear hs4 hf4)
            | (at_builtin; refine wpList_push_int Try.intT rfl _ _ rfl (nb + 1) _ _ rfl HO4.out rfl (by have := HWL.out k; omega) (by omega) ?_; intro v' w5 h1 _ h3; have H5 := Lib.hid (H4.out.bel h3); have HO5 := Lib.hid h1; clear h1 h3))
          go_roundw
          case rel => exact ⟨k + 1, by omega, by go_num, by show Own _ _ _ _ _; rw [HWS.out, if_pos hw.out]; exact HO5.out, H5⟩
          case measure => simp [intOf]; omega
    · have hk' : k = E.length := by omega
      rw [hk'] at hO hS
      clear hk'
      obtain ⟨wA, hA⟩ : ∃ x, x = wr := ⟨_, rfl⟩
      subst hA
      have hszA : nb < wA.heap.size := lt_of_heap hS.out.row
      have HOL := Lib.hid (fun j => Fk.od_len C (Fk.nms C E E.length) j)
      go_wp2
      go_loopw [3, 68] (fun v i wr => ∃ j : Nat, j ≤ C.length ∧ i = .int .i64 j ∧ Hid (Own wr wA.heap.size 3 v (Fk.od C (Fk.nms C E E.length) j)) ∧ Hid (Fr [] wA wr)) (fun _ i _ => C.length - (intOf i).toNat)
      case atStart => exact ⟨0, Nat.zero_le _, rfl, Own.nil _ _ _, Fr.refl _ _⟩
      case round =>
        obtain ⟨j, hj, rfl, hO2, hF⟩ := hrel
        by_cases hlj : j < C.length
        · obtain rfl := HA1.out (by omega)
          have hc := HC.out wr ((HF2.out.trans hS.out.fr).trans hF.out) j hlj
          have hr := cell_ints (i := j) (hF.out.get hS.out.row (by simp)) (by rw [HNL.out]; exact hlj)
          obtain ⟨i0, i1⟩ := Im2.cells ((hS.out.fr.trans hF.out).get HB2.out (by simp))
          have hszr := hF.out.size
          have hjj : (j : Int) < C.length := by omega
          have HST := Lib.hid (Fk.od_step C (Fk.nms C E E.length) j)
          generalize nth C j = x at *
          generalize nth (Fk.nms C E E.length) j = y at *
          by_cases hxy : y = x
          · have e1 : (y != x) = false := by simp [hxy]
            have HS2 := Lib.hid (show Fk.od C (Fk.nms C E E.length) (j + 1) = Fk.od C (Fk.nms C E E.length) j from by rw [HST.out, if_pos (by simpa using hxy)])
            clear hxy HST
            go_wp2
            go_roundw
            case rel => exact ⟨j + 1, by omega, by go_num, by show Own _ _ _ _ _; rw [HS2.out]; exact hO2.out, hF⟩
            case measure => simp [intOf]; omega
          · have e1 : (y != x) = true := by simp [hxy]
            have HS2 := Lib.hid (show Fk.od C (Fk.nms C E E.length) (j + 1) = Fk.od C (Fk.nms C E E.length) j ++ [(j : Int)] from by rw [HST.out, if_neg (by simpa using hxy)])
            clear hxy HST
            go_wp2_with (at_builtin; refine wpList_push_int Try.intT rfl _ _ rfl wA.heap.size _ _ rfl hO2.out rfl (by have := HOL.out j; omega) hszr ?_; intro v' w5 h1 _ h3; have H5 := Lib.hid (hF.out.below_step h3 (Nat.le_refl _)); have HO5 := Lib.hid h1; clear h1 h3)
            go_roundw
            case rel => exact ⟨j + 1, by omega, by go_num, by show Own _ _ _ _ _; rw [HS2.out]; exact HO5.out, H5⟩
            case measure => simp [intOf]; omega
        · have hj' : j = C.length := by omega
          rw [hj'] at hO2
          clear hj'
          go_wp2
          go_ret3
          have h1 := HMB.out
          have h2 := HBE.out
          refine ⟨_, _, rfl, ?_, ?_, (HF2.out.trans hS.out.fr).trans hF.out⟩
          · exact (hO.out.fr hF.out (by simp)).wide (by omega)
          · exact hO2.out.wide (by omega)
end Go.Proofs.Ytbohlbnbaomkiaa
