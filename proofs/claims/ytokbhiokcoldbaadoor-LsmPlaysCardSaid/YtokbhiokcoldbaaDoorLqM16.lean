/- Get of package lsm. -/

import Derived.Test.YtokbhiokcoldbaaDoorLqM02
import Derived.Test.YtokbhiokcoldbaaDoorLqM15
namespace Go.Proofs.YtokbhiokcoldbaaDoor
open Go.RowKit

theorem own_cells1 {w : World} {B e : Nat} {v : Value} {l : List SlV} (h : OwnR slE w B e v l) (h0 : 0 < l.length) : ∃ g c, v = .slice (some ⟨g, 0, none⟩) l.length c ∧ v.ownBlock = some g ∧ ∀ i (hi : i < l.length), w.cell? ⟨g, i, none⟩ = some l[i].val := by
  rcases h.2 with ⟨rfl, hn⟩ | ⟨g, cap, cur, rfl, hb, hg, hc, hm, hs, ht⟩
  · omega
  · refine ⟨g, cap, rfl, rfl, fun i hi => ?_⟩
    rw [cell_of_row w g i cur e _ hg]
    have h1 := slE.cells_get l i 0 hi (by decide)
    rw [← ht, List.getElem?_take] at h1
    rw [show i * slE.k + 0 = i from by show i * 1 + 0 = i; omega] at h1
    split at h1
    · simpa [slE] using h1
    · simp [slE] at h1
theorem LsS.tab {P : Nat → Prop} {w : World} {b : Nat} {A : Option Addr} {n c : Nat} {vr : Value} {vs : List SlV} {m : Ls.M} (h : LsS P w b (.slice A n c) vr vs m) (i : Nat) (hi : i < ((⟨A, n, c⟩ : SlV) :: vs).length) :
    ∃ g, SlR entE w (((⟨A, n, c⟩ : SlV) :: vs)[i]).val g ((m.mem :: m.runs).getD i []) := by
  cases i with
  | zero =>
    obtain ⟨g, _, hs⟩ := h.mem.sl
    exact ⟨g, hs⟩
  | succ i =>
    have hi' : i < vs.length := by simpa using hi
    obtain ⟨g, _, hs⟩ := (h.each i hi').row.sl
    exact ⟨g, by simpa using hs⟩
def Ls.getE (m : Ls.M) (k : Int) : Int := if (Ls.get m k).isSome = true then 0 else 5
def Ls.getV (m : Ls.M) (k : Int) : Int := (Ls.get m k).getD 0
theorem look_at (k : Int) : ∀ (T : List (List (Int × Int))) (i : Nat), (∀ j, j < i → Ls.find k (T.getD j []) = none) → i ≤ T.length → (∀ x, Ls.find k (T.getD i []) = some x → Ls.look k T = some x) ∧ (i = T.length → Ls.look k T = none)
  | [], i, _, hi => ⟨fun x hx => by simp [Ls.find] at hx, fun _ => rfl⟩
  | l :: r, 0, h, hi => ⟨fun x hx => by
      have hx' : Ls.find k l = some x := by simpa using hx
      simp [Ls.look, hx'], fun hl => by simp at hl⟩
  | l :: r, i + 1, h, hi => by
    have h0 : Ls.find k l = none := by simpa using h 0 (by omega)
    obtain ⟨h1, h2⟩ := look_at k r i (fun j hj => by simpa using h (j + 1) (by omega)) (by simpa using hi)
    refine ⟨fun x hx => ?_, fun hl => ?_⟩
    · rw [Ls.look, h0]; exact h1 x (by simpa using hx)
    · rw [Ls.look, h0]; exact h2 (by simpa using hl)
set_option maxRecDepth 100000 in
set_option maxHeartbeats 4000000 in
theorem ls_Get (w : World) (P : Nat → Prop) (b : Nat) (m : Ls.M) (k : Int) (h : LsF P w b m) (hO : Ls.OK m) :
    Calls Tryd.prog 36 #[.pointer (some ⟨b, 0, none⟩), .int .i64 k] w fun e w' => e = .returned (.tuple #[.int .i64 (Ls.getV m k), errV (Ls.getE m k)]) ∧ Fr [] w w' := by
  obtain ⟨vm, vr, vs, hS⟩ := h
  obtain ⟨A, c, rfl⟩ := hS.mem.form
  obtain ⟨A2, c2, hvr⟩ := hS.runs.form
  have hvl := hS.len
  have hOl := hO.len
  have hOm := hO.many
  have HCE : Hid (∀ W, Fr [] w W → W.cell? ⟨b, 0, none⟩ = some (.slice A m.mem.length c) ∧ W.cell? ⟨b, 1, none⟩ = some (.slice A2 vs.length c2)) := fun W hW => by
    have hc := (hS.keep hW).cells
    exact ⟨hc.1, by rw [hc.2.1, hvr]⟩
  have HTAB : Hid (∀ W, Fr [] w W → ∀ i (hi : i < ((⟨A, m.mem.length, c⟩ : SlV) :: vs).length), ∃ g, SlR entE W (((⟨A, m.mem.length, c⟩ : SlV) :: vs)[i]).val g ((m.mem :: m.runs).getD i [])) := fun W hW i hi => (hS.keep hW).tab i hi
  have HUP : Hid (∀ i, i < (m.mem :: m.runs).length → Ls.Up ((m.mem :: m.runs).getD i []) ∧ ((m.mem :: m.runs).getD i []).length ≤ 100000) := fun i hi => by
    have hm := Ls.getD_mem (m.mem :: m.runs) i hi
    refine ⟨hO.up _ hm, ?_⟩
    have ht := hO.tot
    rcases List.mem_cons.1 hm with e | hm
    · rw [e]; have := hO.mem; omega
    · have := (List.sublist_flatten_of_mem hm).length_le
      omega
  obtain ⟨w1, hw1⟩ : ∃ w1, (w.alloc (.cells #[.slice A m.mem.length c] 111)).drew = w1 := ⟨_, rfl⟩
  have hf1 : Fr [] w w1 := by rw [← hw1]; exact ((Fr.refl _ _).alloc _).drew
  have hq : w1.heap[w.heap.size]? = some (.cells #[.slice A m.mem.length c] 111 (0, 0)) := by rw [← hw1]; exact heap_alloc_new w _
  have HOW : Hid (OwnR slE w1 w.heap.size 111 (.slice (some ⟨w.heap.size, 0, none⟩) 1 1) [⟨A, m.mem.length, c⟩]) := own_at hq (Nat.le_refl _) rfl (Nat.le_refl _) (by decide) rfl rfl
  have HRS : Hid (∃ g, SlR slE w1 (.slice A2 vs.length c2) g vs) := by
    obtain ⟨g, _, hs⟩ := (hS.runs.kept hf1 (by simp)).sl
    exact ⟨g, by rw [← hvr]; exact hs⟩
  have HF1 := Lib.hid hf1
  have HW1 := Lib.hid hw1
  have hvs60 : vs.length ≤ 60 := by omega
  have HVL := Lib.hid hvl
  clear hS hO hf1 hq hw1 hvr hOl hOm hvl
  go_enter Tryd.func36, Tryd.ntmps36
  go_wp2_with fail
  (refine wp_region_mix (Fr [] w ·) 12 [(true, 0), (true, 1), (true, 2), (true, 3), (true, 5), (true, 6), (true, 7), (true, 8), (true, 11), (false, 4), (false, 9), (true, 10)] (by kernel_rfl) (by kernel_rfl) ((Fr.refl _ _).drew) ?_; simp only [pickOps, List.map_cons, List.map_nil, List.getD_cons_zero, List.getD_cons_succ, List.drop_succ_cons, List.drop_zero])
  (iterate 9 (first | (refine wpMix_take (v := ?_) (by rfl) ?_ ?_; rotate_left; (focus (intro W hW; obtain ⟨q0, q1⟩ := HCE.out W hW; go_simp; (try with_reducible rfl); done)); try simp only [Act.put, List.setIfInBounds_toArray, List.set_cons_zero, List.set_cons_succ]) | (refine wpMix_leave (by rfl) ?_; try simp only [Act.put, List.setIfInBounds_toArray, List.set_cons_zero, List.set_cons_succ])))
  refine wpMix_walk ?_
  go_wp2
  rw [HW1.out]
  refine MixQ.mk (HF1.out) ?_
  refine wpMix_walk ?_
  go_wp2_with (at_builtin; obtain ⟨gs, hgs⟩ := HRS.out; refine wpList_spread_enc (E := slE) Tryd.und_insT Tryd.info_insT rfl (by decide) rfl _ _ rfl w.heap.size _ _ [⟨A, m.mem.length, c⟩] vs gs rfl HOW.out rfl hgs (by simp; omega) HF1.out.size ?_; intro v' w2 h1 _ h3; have HO2 := Lib.hid h1; have HF2 := Lib.hid (HF1.out.below_step h3 (Nat.le_refl _)); clear h1 h3 hgs)
  refine MixQ.mk (HF2.out) ?_
  obtain ⟨g, c3, rfl, -, hcel⟩ := own_cells1 HO2.out (by simp)
  have HCEL := Lib.hid (fun W (hW : Fr [] w2 W) i hi => hW.cell (hcel i hi) (by simp))
  have hTl : ([⟨A, m.mem.length, c⟩] ++ vs : List SlV).length = vs.length + 1 := by simp
  rw [hTl]
  clear hcel
  (iterate 1 (first | (refine wpMix_take (v := ?_) (by rfl) ?_ ?_; rotate_left; (focus (intro W hW; skip; go_simp; (try with_reducible rfl); done)); try simp only [Act.put, List.setIfInBounds_toArray, List.set_cons_zero, List.set_cons_succ]) | (refine wpMix_leave (by rfl) ?_; try simp only [Act.put, List.setIfInBounds_toArray, List.set_cons_zero, List.set_cons_succ])))
  refine wpMix_nil ?_
  go_wp2_with fail
  have HF02 := HF2
  have HLK := Lib.hid (look_at k (m.mem :: m.runs))
  have hTm : (m.mem :: m.runs).length = vs.length + 1 := by rw [List.length_cons, HVL.out]
  have HTM := Lib.hid hTm
  clear hTm HOW HRS HO2 HF1 HW1 HCE
  go_loopw [21] (fun i wr => ∃ j : Nat, j ≤ vs.length + 1 ∧ i = .int .i64 j ∧ Hid (Fr [] w2 wr) ∧ Hid (∀ q, q < j → Ls.find k ((m.mem :: m.runs).getD q []) = none)) (fun i _ => vs.length + 1 - (intOf i).toNat)
  case atStart => exact ⟨0, Nat.zero_le _, rfl, Fr.refl _ _, fun q hq => absurd hq (Nat.not_lt_zero _)⟩
  case round =>
    obtain ⟨j, hj, rfl, hF, hN⟩ := hrel
    by_cases hlt : j < vs.length + 1
    · have jI : (j : Int) < (vs.length : Int) + 1 := by omega
      have j0 : (0 : Int) ≤ j := by omega
      have q := HCEL.out wr hF.out j (by rw [hTl]; exact hlt)
      obtain ⟨gs, hgs⟩ := HTAB.out wr (HF2.out.trans hF.out) j (by simpa using hlt)
      obtain ⟨hup, hln⟩ := HUP.out j (by rw [HTM.out]; exact hlt)
      obtain ⟨L1, L2⟩ := HLK.out j hN.out (by rw [HTM.out]; omega)
      have L1 := Lib.hid L1
      obtain ⟨tv, htv⟩ : ∃ tv : SlV, (((⟨A, m.mem.length, c⟩ : SlV) :: vs)[j]'(by simpa using hlt)) = tv := ⟨_, rfl⟩
      rw [show ([⟨A, m.mem.length, c⟩] ++ vs : List SlV)[j]'(by rw [hTl]; exact hlt) = tv from htv] at q
      rw [htv] at hgs
      obtain ⟨T, hT⟩ : ∃ T, (m.mem :: m.runs).getD j [] = T := ⟨_, rfl⟩
      have HNX : Hid (Ls.find k T = none → ∀ q, q < j + 1 → Ls.find k ((m.mem :: m.runs).getD q []) = none) := fun hn q hq => by
        by_cases hqj : q = j
        · subst hqj; rw [hT]; exact hn
        · exact hN.out q (by omega)
      rw [hT] at hgs hup hln L1
      have HFI := Lib.hid (ls_find wr tv.val gs T k hgs hup hln)
      clear L2 hup hln hgs hT htv hN
      obtain ⟨A', n', c'⟩ := tv
      dsimp only [SlV.val] at q HFI
      cases hx : Ls.find k T with
      | none =>
        have hfd : LsFd T k = (0, 0, false) := by unfold LsFd; rw [hx]
        rw [hfd] at HFI
        have HNX := Lib.hid (HNX.out hx)
        clear hfd hx L1
        go_wp2_with (first
          | (go_at_call 74; (with_reducible refine useC HFI.out ?_); rintro e3 w3 ⟨rfl, hf3⟩; have HF3 := Lib.hid (hF.out.trans hf3); clear hf3)
          | (refine wpList_store_fresh (w := w3) rfl 117 _ _ rfl rfl #[.int .i64 0, .int .i64 0] rfl rfl ent_info rfl (by simp [Value.oneCell']) ?_; intro w4 hw4 hf4 hs4; have HF4 := Lib.hid (HF3.out.trans hf4); clear hw4 hf4 hs4))
        go_roundw
        case rel => exact ⟨j + 1, by omega, by go_num, HF4.out, HNX.out⟩
        case measure => (simp [intOf]; try omega)
      | some x =>
        have hfd : LsFd T k = (k, x, true) := by unfold LsFd; rw [hx]
        rw [hfd] at HFI
        have hLK := L1.out x hx
        clear hfd hx HNX L1
        by_cases hx0 : x < 0
        · have hE : Hid (Ls.getE m k = 5 ∧ Ls.getV m k = 0) := by
            have : Ls.get m k = none := by unfold Ls.get Ls.val; rw [hLK]; simp [hx0]
            exact ⟨by unfold Ls.getE; rw [this]; rfl, by unfold Ls.getV; rw [this]; rfl⟩
          clear hLK
          go_wp2_with (first
            | (go_at_call 74; (with_reducible refine useC HFI.out ?_); rintro e3 w3 ⟨rfl, hf3⟩; have HF3 := Lib.hid (hF.out.trans hf3); clear hf3)
            | (refine wpList_store_fresh (w := w3) rfl 117 _ _ rfl rfl #[.int .i64 k, .int .i64 x] rfl rfl ent_info rfl (by simp [Value.oneCell']) ?_; intro w4 hw4 hf4 hs4; have HF4 := Lib.hid (HF3.out.trans hf4); have c1 : w4.cell? ⟨w3.heap.size, 1, none⟩ = some (.int .i64 x) := (by rw [cell_of_row _ _ _ _ _ _ hw4]; rfl); clear hw4 hf4 hs4))
          go_ret2
          exact ⟨by rw [hE.out.1, hE.out.2, errV_no (by decide)]; rfl, HF02.out.trans HF4.out⟩
        · have hE : Hid (Ls.getE m k = 0 ∧ Ls.getV m k = x) := by
            have : Ls.get m k = some x := by unfold Ls.get Ls.val; rw [hLK]; simp [hx0]
            exact ⟨by unfold Ls.getE; rw [this]; rfl, by unfold Ls.getV; rw [this]; rfl⟩
          clear hLK
          go_wp2_with (first
            | (go_at_call 74; (with_reducible refine useC HFI.out ?_); rintro e3 w3 ⟨rfl, hf3⟩; have HF3 := Lib.hid (hF.out.trans hf3); clear hf3)
            | (refine wpList_store_fresh (w := w3) rfl 117 _ _ rfl rfl #[.int .i64 k, .int .i64 x] rfl rfl ent_info rfl (by simp [Value.oneCell']) ?_; intro w4 hw4 hf4 hs4; have HF4 := Lib.hid (HF3.out.trans hf4); have c1 : w4.cell? ⟨w3.heap.size, 1, none⟩ = some (.int .i64 x) := (by rw [cell_of_row _ _ _ _ _ _ hw4]; rfl); clear hw4 hf4 hs4))
          go_ret2
          exact ⟨by rw [hE.out.1, hE.out.2, show errV 0 = .nilIface from rfl]; rfl, HF02.out.trans HF4.out⟩
    · obtain rfl : j = vs.length + 1 := by omega
      have jI : ¬ (((vs.length + 1 : Nat) : Int) < (vs.length : Int) + 1) := by omega
      have hLK := (HLK.out (vs.length + 1) hN.out (by rw [HTM.out]; omega)).2 HTM.out.symm
      have hE : Hid (Ls.getE m k = 5 ∧ Ls.getV m k = 0) := by
        have : Ls.get m k = none := by unfold Ls.get Ls.val; rw [hLK]
        exact ⟨by unfold Ls.getE; rw [this]; rfl, by unfold Ls.getV; rw [this]; rfl⟩
      clear hLK hN
      go_wp2
      go_ret2
      exact ⟨by rw [hE.out.1, hE.out.2, errV_no (by decide)]; rfl, HF02.out.trans hF.out⟩
end Go.Proofs.YtokbhiokcoldbaaDoor
