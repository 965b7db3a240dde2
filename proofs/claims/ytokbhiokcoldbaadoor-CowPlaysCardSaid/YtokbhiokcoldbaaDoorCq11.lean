/- The document's versions: Shared. -/

import Derived.Test.YtokbhiokcoldbaaDoorCq02
import Derived.Test.YtokbhiokcoldbaaDoorCq04
import Derived.Test.YtokbhiokcoldbaaDoorCq05
import Derived.Test.YtokbhiokcoldbaaDoorCq10
namespace Go.Proofs.YtokbhiokcoldbaaDoor
open Go.RowKit

theorem sl_cells {w : World} {A : Option Addr} {n c g : Nat} {xs : List Int} (h : Sl w (.slice A n c) g xs) : ∃ o, (0 < n → A = some ⟨g, o, none⟩) ∧ ∀ W, Fr [] w W → ∀ i, i < n → W.cell? ⟨g, o + i, none⟩ = some (.int .i64 (nth xs i)) := by
  obtain ⟨A', o, c', e, -, hA, hc⟩ := h.form
  injection e with e1 e2 e3
  subst e1 e2 e3
  exact ⟨o, hA, fun W hW i hi => hW.cell (hc i hi) (by simp)⟩
namespace Co
def shTo (a b : Vr) (i : Nat) : Nat := ((a.K.take i).filter (shB a b)).length
theorem shTo_succ {a b : Vr} {i : Nat} (h : i < a.K.length) : shTo a b (i + 1) = shTo a b i + if shB a b (nth a.K i) = true then 1 else 0 := by
  unfold shTo
  have e : nth a.K i = a.K[i] := by unfold nth; rw [List.getD_eq_getElem?_getD, List.getElem?_eq_getElem h]; rfl
  rw [List.take_add_one, List.getElem?_eq_getElem h, List.filter_append, List.length_append, e]
  by_cases hb : shB a b a.K[i] = true
  · simp [hb]
  · simp [hb]
theorem shTo_all (a b : Vr) : shTo a b a.K.length = vshared a b := by unfold shTo vshared; rw [List.take_length]
theorem shTo_le (a b : Vr) (i : Nat) : shTo a b i ≤ a.K.length := by
  unfold shTo
  have h1 := List.length_filter_le (shB a b) (a.K.take i)
  have h2 : (a.K.take i).length ≤ a.K.length := by rw [List.length_take]; omega
  omega
end Co
set_option maxRecDepth 100000 in
set_option maxHeartbeats 8000000 in
theorem cq_Shared (w : World) (A0 : Option Addr) (c0 : Nat) (A1 : Option Addr) (c1 : Nat) (A2 : Option Addr) (c2 : Nat) (a : Co.Vr) (B0 : Option Addr) (d0 : Nat) (B1 : Option Addr) (d1 : Nat) (B2 : Option Addr) (d2 : Nat) (b : Co.Vr) (g0 g2 h0 h2 : Nat)
    (hak : Sl w (.slice A0 a.K.length c0) g0 a.K) (ham : Sl w (.slice A2 a.K.length c2) g2 a.M) (hbk : Sl w (.slice B0 b.K.length d0) h0 b.K) (hbm : Sl w (.slice B2 b.K.length d2) h2 b.M) (nda : a.K.Nodup) (ndb : b.K.Nodup) (hl : a.K.length ≤ 1000) :
    Calls Tryd.prog 17 #[.agg #[.slice A0 a.K.length c0, .slice A1 a.K.length c1, .slice A2 a.K.length c2], .agg #[.slice B0 b.K.length d0, .slice B1 b.K.length d1, .slice B2 b.K.length d2]] w fun e w' => e = .returned (.int .i64 (Co.vshared a b : Nat)) ∧ Fr [] w w' := by
  obtain ⟨f3, y0, y1⟩ := verO_two w (.cells #[.slice A0 a.K.length c0, .slice A1 a.K.length c1, .slice A2 a.K.length c2] 27) (.cells #[.slice B0 b.K.length d0, .slice B1 b.K.length d1, .slice B2 b.K.length d2] 27)
  have HY0 := Lib.hid y0
  have HY1 := Lib.hid y1
  have HF0 := Lib.hid f3
  have HAK := Lib.hid (hak.fr f3 (by simp))
  have HAM := Lib.hid (ham.fr f3 (by simp))
  have HBK := Lib.hid (hbk.fr f3 (by simp))
  have HBM := Lib.hid (hbm.fr f3 (by simp))
  have HNA := Lib.hid nda
  have HNB := Lib.hid ndb
  clear y0 y1 f3 hak ham hbk hbm nda ndb
  go_enter Tryd.func17, Tryd.ntmps17
  go_upto_region 1 with (fail)
  revert HY0 HY1 HF0 HAK HAM HBK HBM
  generalize (w.alloc (.cells #[.slice A0 a.K.length c0, .slice A1 a.K.length c1, .slice A2 a.K.length c2] 27)).alloc (.cells #[.slice B0 b.K.length d0, .slice B1 b.K.length d1, .slice B2 b.K.length d2] 27) = WB
  generalize w.heap.size + 1 = Y
  generalize w.heap.size = X
  intro HY0 HY1 HF0 HAK HAM HBK HBM
  have HXC : Hid (∀ W, Fr [] WB W → (W.cell? ⟨X, 0, none⟩ = some (.slice A0 a.K.length c0) ∧ W.cell? ⟨X, 2, none⟩ = some (.slice A2 a.K.length c2)) ∧ W.cell? ⟨Y, 0, none⟩ = some (.slice B0 b.K.length d0) ∧ W.cell? ⟨Y, 2, none⟩ = some (.slice B2 b.K.length d2)) := fun W hW => by
    have h1 := hW.get HY0.out (by simp)
    have h2 := hW.get HY1.out (by simp)
    refine ⟨⟨?_, ?_⟩, ?_, ?_⟩
    · rw [cell_of_row _ _ _ _ _ _ h1]; rfl
    · rw [cell_of_row _ _ _ _ _ _ h1]; rfl
    · rw [cell_of_row _ _ _ _ _ _ h2]; rfl
    · rw [cell_of_row _ _ _ _ _ _ h2]; rfl
  obtain ⟨o0, hA0, q0⟩ := sl_cells HAK.out
  obtain ⟨o2, hA2, q2⟩ := sl_cells HAM.out
  obtain ⟨p2, hB2, r2⟩ := sl_cells HBM.out
  have HA0 := Lib.hid hA0
  have HA2 := Lib.hid hA2
  have HB2 := Lib.hid hB2
  have HQ0 := Lib.hid q0
  have HQ2 := Lib.hid q2
  have HR2 := Lib.hid r2
  have HPL := Lib.hid (fun W (hW : Fr [] WB W) y => cq_place W _ h0 b.K y (HBK.out.fr hW (by simp)) HNB.out)
  clear hA0 hA2 hB2 q0 q2 r2
  go_wp2_with fail
  go_loopw [5, 6] (fun nv iv wr => ∃ i : Nat, i ≤ a.K.length ∧ iv = .int .i64 i ∧ nv = .int .i64 (Co.shTo a b i : Nat) ∧ Hid (Fr [] WB wr)) (fun _ iv _ => a.K.length - (intOf iv).toNat)
  case atStart => exact ⟨0, Nat.zero_le _, rfl, rfl, Fr.refl _ _⟩
  case round =>
    obtain ⟨i, hi, rfl, rfl, hF⟩ := hrel
    by_cases hlt : i < a.K.length
    · have iI : (i : Int) < a.K.length := by omega
      have i0 : (0 : Int) ≤ i := by omega
      obtain rfl := HA0.out (by omega)
      obtain rfl := HA2.out (by omega)
      have hd : Fr [] WB wr.drew := hF.out.trans (Fr.refl [] wr).drew
      have HD := Lib.hid hd
      have HD2 : Hid (Fr [] WB wr.drew.drew) := hd.trans (Fr.refl [] _).drew
      obtain ⟨⟨b0, b2⟩, e0, e2⟩ := HXC.out wr hF.out
      have q0 := HQ0.out wr hF.out i hlt
      have HSU := Lib.hid (Co.shTo_succ (b := b) hlt)
      have hle := Co.shTo_le a b i
      have hix := Co.idx_nth HNA.out hlt
      have HPY := Lib.hid (HPL.out wr.drew hd (nth a.K i))
      obtain ⟨y, hy⟩ : ∃ y, nth a.K i = y := ⟨_, rfl⟩
      rw [hy] at HSU HPY q0 hix
      have HIX := Lib.hid hix
      generalize Co.shTo a b i = n at *
      clear hd hix hy
      go_wp2_with fail
      (refine wp_region_mixq 7 [(true, 0), (true, 1), (true, 2), (true, 3), (true, 4), (true, 5), (true, 6)] (by kernel_rfl) (by kernel_rfl) ?_; simp only [pickOps, List.map_cons, List.map_nil, List.getD_cons_zero, List.getD_cons_succ, List.drop_succ_cons, List.drop_zero]; (iterate 7 (first | (refine wpMix_take (v := ?_) (by rfl) ?_ ?_; rotate_left; (focus (intro W hW; subst hW; go_simp; (try with_reducible rfl); done)); try simp only [Act.put, List.setIfInBounds_toArray, List.set_cons_zero, List.set_cons_succ]) | (refine wpMix_leave (by rfl) ?_; try simp only [Act.put, List.setIfInBounds_toArray, List.set_cons_zero, List.set_cons_succ]))); refine wpMix_nil ?_)
      go_upto_region 6 with (go_at_call 46; (with_reducible refine useC HPY.out ?_); rintro e w2 ⟨rfl, rfl⟩)
      clear b0 b2 e0 e2 q0
      obtain ⟨⟨b0, b2⟩, e0, e2⟩ := HXC.out wr.drew HD.out
      have q2 := HQ2.out wr.drew HD.out i hlt
      by_cases hin : y ∈ b.K
      · have hp : plc b.K y = ((b.K.idxOf y : Nat) : Int) := if_pos hin
        have hjl := List.idxOf_lt_length_iff.2 hin
        have HIN := Lib.hid hin
        have hsh : Co.shB a b y = decide (nth a.M i = nth b.M (b.K.idxOf y)) := by
          unfold Co.shB
          rw [HIX.out]
          exact decide_eq_decide.2 ⟨fun h => h.2, fun h => ⟨HIN.out, h⟩⟩
        have HSH := Lib.hid hsh
        clear hsh hin
        rw [hp]
        clear hp
        generalize b.K.idxOf y = j at *
        obtain rfl := HB2.out (by omega)
        have r2 := HR2.out wr.drew HD.out j hjl
        have jI : (j : Int) < b.K.length := by omega
        have j0 : (0 : Int) ≤ j := by omega
        have jg : ((j : Int) ≥ 0) = True := eq_true (by omega)
        generalize nth a.M i = s at *
        generalize nth b.M j = t at *
        by_cases he : s = t
        · have hb : (s == t) = true := beq_iff_eq.2 he
          have hn : (Co.shTo a b (i + 1) : Nat) = n + 1 := by rw [HSU.out, HSH.out, if_pos (decide_eq_true he)]
          have HN : Hid (((Co.shTo a b (i + 1) : Nat) : Int) = (n : Int) + 1) := by show _ = _; rw [hn]; omega
          have hw : IntKind.i64.wrap ((n : Int) + 1) = (n : Int) + 1 := by rw [IntKind.wrap_i64]; omega
          clear he hn
          go_wp2_with fail
          (refine wp_region_mixq 13 [(true, 0), (true, 1), (true, 2), (true, 3), (true, 4), (true, 5), (true, 6), (true, 7), (true, 8), (true, 9), (true, 10), (true, 11), (true, 12)] (by kernel_rfl) (by kernel_rfl) ?_; simp only [pickOps, List.map_cons, List.map_nil, List.getD_cons_zero, List.getD_cons_succ, List.drop_succ_cons, List.drop_zero]; (iterate 13 (first | (refine wpMix_take (v := ?_) (by rfl) ?_ ?_; rotate_left; (focus (intro W hW; subst hW; go_simp; (try with_reducible rfl); done)); try simp only [Act.put, List.setIfInBounds_toArray, List.set_cons_zero, List.set_cons_succ]) | (refine wpMix_leave (by rfl) ?_; try simp only [Act.put, List.setIfInBounds_toArray, List.set_cons_zero, List.set_cons_succ]))); refine wpMix_nil ?_)
          go_wp2
          go_roundw
          case rel => exact ⟨i + 1, by omega, by go_num, by rw [HN.out], HD2⟩
          case measure => (simp [intOf]; try omega)
        · have hb : (s == t) = false := beq_eq_false_iff_ne.2 he
          have HN : Hid (Co.shTo a b (i + 1) = n) := by show _ = _; rw [HSU.out, HSH.out, if_neg (by simpa using he)]; rfl
          clear he
          go_wp2_with fail
          (refine wp_region_mixq 13 [(true, 0), (true, 1), (true, 2), (true, 3), (true, 4), (true, 5), (true, 6), (true, 7), (true, 8), (true, 9), (true, 10), (true, 11), (true, 12)] (by kernel_rfl) (by kernel_rfl) ?_; simp only [pickOps, List.map_cons, List.map_nil, List.getD_cons_zero, List.getD_cons_succ, List.drop_succ_cons, List.drop_zero]; (iterate 13 (first | (refine wpMix_take (v := ?_) (by rfl) ?_ ?_; rotate_left; (focus (intro W hW; subst hW; go_simp; (try with_reducible rfl); done)); try simp only [Act.put, List.setIfInBounds_toArray, List.set_cons_zero, List.set_cons_succ]) | (refine wpMix_leave (by rfl) ?_; try simp only [Act.put, List.setIfInBounds_toArray, List.set_cons_zero, List.set_cons_succ]))); refine wpMix_nil ?_)
          go_wp2
          go_roundw
          case rel => exact ⟨i + 1, by omega, by go_num, by rw [HN.out], HD2⟩
          case measure => (simp [intOf]; try omega)
      · have hp : plc b.K y = -1 := if_neg hin
        have hsh : Co.shB a b y = false := decide_eq_false (fun h => hin h.1)
        have HN : Hid (Co.shTo a b (i + 1) = n) := by show _ = _; rw [HSU.out, hsh]; rfl
        clear hsh hin
        rw [hp]
        clear hp
        have jg : ((-1 : Int) ≥ 0) = False := by decide
        go_wp2_with fail
        (refine wp_region_mixq 13 [(true, 0), (true, 1), (true, 2), (true, 3), (true, 4), (true, 5), (true, 6), (true, 7), (true, 8), (true, 9), (true, 10), (true, 11), (true, 12)] (by kernel_rfl) (by kernel_rfl) ?_; simp only [pickOps, List.map_cons, List.map_nil, List.getD_cons_zero, List.getD_cons_succ, List.drop_succ_cons, List.drop_zero]; (iterate 13 (first | (refine wpMix_take (v := ?_) (by rfl) ?_ ?_; rotate_left; (focus (intro W hW; subst hW; go_simp; (try with_reducible rfl); done)); try simp only [Act.put, List.setIfInBounds_toArray, List.set_cons_zero, List.set_cons_succ]) | (refine wpMix_leave (by rfl) ?_; try simp only [Act.put, List.setIfInBounds_toArray, List.set_cons_zero, List.set_cons_succ]))); refine wpMix_nil ?_)
        go_wp2
        go_roundw
        case rel => exact ⟨i + 1, by omega, by go_num, by rw [HN.out], HD2⟩
        case measure => (simp [intOf]; try omega)
    · obtain rfl : i = a.K.length := by omega
      have iI : ¬ ((a.K.length : Nat) : Int) < a.K.length := by omega
      obtain ⟨⟨b0, b2⟩, e0, e2⟩ := HXC.out wr hF.out
      have HV := Lib.hid (Co.shTo_all a b)
      clear hlt
      go_wp2
      go_ret
      exact ⟨by rw [← HV.out]; rfl, HF0.out.trans hF.out⟩
end Go.Proofs.YtokbhiokcoldbaaDoor
/- A tree that never changes, in memory; the store of versions. -/
namespace Go.Proofs.YtokbhiokcoldbaaDoor
open Go.RowKit

/-- A pointer at a tree's root. -/
def Ct.ptr : Ct → Value
  | .nil => .pointer none
  | .node b _ _ _ _ => .pointer (some ⟨b, 0, none⟩)
/-- The tree lies in memory. -/
def CoIn (w : World) : Ct → Prop
  | .nil => True
  | .node b k v l r => w.heap[b]? = some (.cells #[.int .i64 k, .int .i64 v, l.ptr, r.ptr] 93 (0, 0)) ∧ CoIn w l ∧ CoIn w r
theorem Ct.ptr_form (T : Ct) : ∃ u, T.ptr = .pointer u := by cases T <;> exact ⟨_, rfl⟩
theorem CoIn.node_at {w : World} {b : Nat} : ∀ {T : Ct}, CoIn w T → b ∈ Co.blks T → ∃ cs, w.heap[b]? = some (.cells cs 93 (0, 0))
  | .nil, _, h => by simp [Co.blks, Co.nodes] at h
  | .node b' k v l r, ⟨h1, h2, h3⟩, h => by
    rw [Co.blks_node, List.mem_append, List.mem_cons] at h
    rcases h with h | rfl | h
    · exact h2.node_at h
    · exact ⟨_, h1⟩
    · exact h3.node_at h
theorem CoIn.keep {w w' : World} : ∀ {T : Ct}, CoIn w T → (∀ b ∈ Co.blks T, w'.heap[b]? = w.heap[b]?) → CoIn w' T
  | .nil, _, _ => trivial
  | .node b k v l r, ⟨h1, h2, h3⟩, h => by
    rw [Co.blks_node] at h
    exact ⟨(h b (by simp)).trans h1, h2.keep (fun x hx => h x (by simp [hx])), h3.keep (fun x hx => h x (by simp [hx]))⟩
theorem CoIn.fr {S : List Nat} {w w' : World} {T : Ct} (h : CoIn w T) (hf : Fr S w w') (hS : ∀ b ∈ S, b ∉ Co.blks T) : CoIn w' T := h.keep fun b hb => by
  obtain ⟨cs, hc⟩ := h.node_at hb
  exact hf.block b (lt_of_heap hc) (fun hm => hS b hm hb)
theorem CoIn.step {w w' : World} {T : Ct} (h : CoIn w T) (hf : Fr [] w w') : CoIn w' T := h.fr hf (by simp)
theorem CoIn.lt {w : World} {T : Ct} (h : CoIn w T) {b : Nat} (hb : b ∈ Co.blks T) : b < w.heap.size := by
  obtain ⟨cs, hc⟩ := h.node_at hb
  exact lt_of_heap hc
/-- A pointer to a tree as an element of a row. -/
def ptE : Enc Ct where
  k := 1
  enc := fun T => [T.ptr]
  len := fun _ => rfl
  one := fun T v hv => by simp only [List.mem_singleton] at hv; subst hv; obtain ⟨u, hu⟩ := T.ptr_form; rw [hu]; rfl
  pos := by decide
/-- Block sb holds a store of the versions st; the row lies in a block from B on. -/
structure CoS (B : Nat) (w : World) (sb : Nat) (st : List Ct) : Prop where
  ge : B ≤ sb
  main : ∃ A g c, w.heap[sb]? = some (.cells #[.slice (some ⟨g, 0, none⟩) st.length c] 81 (0, 0)) ∧ A = Value.slice (some ⟨g, 0, none⟩) st.length c ∧ OwnR ptE w B 84 A st
  ins : ∀ T ∈ st, CoIn w T
  ok : Co.OK st w.heap.size
/-- Block k is the store's own: its first one, or its row's. -/
def CoF (w : World) (sb k : Nat) : Prop := k = sb ∨ ∃ v, w.cell? ⟨sb, 0, none⟩ = some v ∧ v.ownBlock = some k
section
variable {B : Nat} {w w' : World} {sb : Nat} {st : List Ct}
/-- The row's block and what lies in it. -/
theorem CoS.row (h : CoS B w sb st) : ∃ g c cur, w.heap[sb]? = some (.cells #[.slice (some ⟨g, 0, none⟩) st.length c] 81 (0, 0)) ∧ w.heap[g]? = some (.cells cur 84 (0, 0)) ∧ OwnR ptE w B 84 (.slice (some ⟨g, 0, none⟩) st.length c) st ∧
    g ≠ sb ∧ B ≤ g ∧ (∀ i (hi : i < st.length), w.cell? ⟨g, i, none⟩ = some st[i].ptr) := by
  obtain ⟨A, g, c, h1, rfl, h2⟩ := h.main
  have h2' := h2
  obtain ⟨h3, h4⟩ := h2
  have hl := h.ok.len.1
  rcases h4 with ⟨he, hn⟩ | ⟨g', cap, cur, he, hb, hg, hc, hm, hs, ht⟩
  · cases he
  · injection he with he1 he2 he3
    injection he1 with he1
    injection he1 with he1 _ _
    subst he1 he3
    refine ⟨g, c, cur, h1, hg, h2', fun e => ?_, hb, fun i hi => ?_⟩
    · subst e
      rw [h1] at hg
      injection hg with hg
      injection hg with _ hg _
      exact absurd hg (by decide)
    · obtain ⟨gs, _, hsl⟩ := h2'.sl
      rcases hsl with ⟨e0, _⟩ | ⟨o, c', e0, _, _, hcell⟩
      · rw [e0] at hi; simp at hi
      · injection e0 with e1 _ _
        injection e1 with e1
        injection e1 with e1 e2 _
        subst e1 e2
        have := hcell i hi 0 (by decide)
        simpa [ptE] using this
theorem CoS.footLt (h : CoS B w sb st) : ∀ k, CoF w sb k → k < w.heap.size := by
  obtain ⟨g, c, cur, h1, h2, -⟩ := h.row
  rintro k (rfl | ⟨v, hv, hk⟩)
  · exact lt_of_heap h1
  · rw [cell_of_row w sb 0 _ _ _ h1] at hv
    simp at hv
    subst hv
    simp [Value.ownBlock] at hk
    subst hk
    exact lt_of_heap h2
theorem CoS.footGe (h : CoS B w sb st) : ∀ k, CoF w sb k → B ≤ k := by
  obtain ⟨g, c, cur, h1, h2, -, -, h5, -⟩ := h.row
  rintro k (rfl | ⟨v, hv, hk⟩)
  · exact h.ge
  · rw [cell_of_row w sb 0 _ _ _ h1] at hv
    simp at hv
    subst hv
    simp [Value.ownBlock] at hk
    subst hk
    exact h5
/-- The store's own blocks hold no node. -/
theorem CoS.apart (h : CoS B w sb st) {T : Ct} (hT : CoIn w T) : ∀ k, CoF w sb k → k ∉ Co.blks T := by
  obtain ⟨g, c, cur, h1, h2, -⟩ := h.row
  rintro k (rfl | ⟨v, hv, hk⟩) hb
  · obtain ⟨cs, hc⟩ := hT.node_at hb
    rw [h1] at hc
    injection hc with hc
    injection hc with _ hc _
    exact absurd hc (by decide)
  · rw [cell_of_row w sb 0 _ _ _ h1] at hv
    simp at hv
    subst hv
    simp [Value.ownBlock] at hk
    subst hk
    obtain ⟨cs, hc⟩ := hT.node_at hb
    rw [h2] at hc
    injection hc with hc
    injection hc with _ hc _
    exact absurd hc (by decide)
theorem CoS.step (h : CoS B w sb st) (hf : Fr [] w w') : CoS B w' sb st := by
  obtain ⟨A, g, c, h1, h2, h3⟩ := h.main
  exact ⟨h.ge, ⟨A, g, c, hf.get h1 (by simp), h2, h3.kept hf (by simp)⟩, fun T hT => (h.ins T hT).step hf, h.ok.mono hf.size⟩
theorem CoS.footFr (h : CoS B w sb st) (hf : Fr [] w w') : ∀ k, CoF w' sb k → CoF w sb k := by
  obtain ⟨A, g, c, h1, h2, h3⟩ := h.main
  rintro k (rfl | ⟨v, hv, hk⟩)
  · exact .inl rfl
  · refine .inr ⟨v, ?_, hk⟩
    rw [cell_of_row _ sb 0 _ _ _ (hf.get h1 (by simp))] at hv
    rw [cell_of_row w sb 0 _ _ _ h1]
    exact hv
/-- Nothing but the store's own blocks has turned, and those are its own, or new. -/
def CoK (sb : Nat) (w w' : World) : Prop := FrP (CoF w sb) w w' ∧ ∀ k, CoF w' sb k → CoF w sb k ∨ w.heap.size ≤ k
theorem CoK.of_fr (h : CoS B w sb st) (hf : Fr [] w w') : CoK sb w w' := ⟨(FrP.refl _ _).step hf (by simp), fun k hk => .inl (h.footFr hf k hk)⟩
theorem CoK.trans {w2 : World} (h : CoK sb w w') (k : CoK sb w' w2) : CoK sb w w2 :=
  ⟨h.1.trans k.1 (fun x hx => h.2 x hx), fun x hx => (k.2 x hx).elim (fun hx => h.2 x hx) (fun hx => .inr (Nat.le_trans h.1.size hx))⟩
theorem CoK.fr (h : CoK sb w w') (hS : CoS B w sb st) {a : World} (h0 : Fr [] a w) (hB : a.heap.size ≤ B) : Fr [] a w' := FrP.fr h0 h.1 (fun k hk => Nat.le_trans hB (hS.footGe k hk))
end
end Go.Proofs.YtokbhiokcoldbaaDoor

/- The contracts of package cow: put, root, New, Get. -/
namespace Go.Proofs.YtokbhiokcoldbaaDoor
open Go.RowKit

/-- What put hands back. -/
def CoPutA (T : Ct) (k v : Int) (w : World) (e : Ending) (w' : World) : Prop :=
  e = .returned (Co.put T w.heap.size k v).ptr ∧ CoIn w' (Co.put T w.heap.size k v) ∧ Fr [] w w' ∧ w'.heap.size = w.heap.size + Co.way T k
theorem put_lt {b : Nat} {k v k' v' : Int} {l r : Ct} {n : Nat} (h : k < k') : Co.put (.node b k' v' l r) n k v = .node n k' v' (Co.put l (n + 1) k v) r ∧ Co.way (.node b k' v' l r) k = Co.way l k + 1 := by
  simp only [Co.put, Co.way]
  rw [if_pos h, if_pos h]
  exact ⟨rfl, rfl⟩
theorem put_gt {b : Nat} {k v k' v' : Int} {l r : Ct} {n : Nat} (h : k' < k) : Co.put (.node b k' v' l r) n k v = .node n k' v' l (Co.put r (n + 1) k v) ∧ Co.way (.node b k' v' l r) k = Co.way r k + 1 := by
  have h1 : ¬ k < k' := by omega
  simp only [Co.put, Co.way, if_neg h1, if_pos h]
  exact ⟨trivial, trivial⟩
theorem put_eq {b : Nat} {k v v' : Int} {l r : Ct} {n : Nat} : Co.put (.node b k v' l r) n k v = .node n k v l r ∧ Co.way (.node b k v' l r) k = 1 := by
  have h1 : ¬ k < k := by omega
  simp only [Co.put, Co.way, if_neg h1]
  exact ⟨trivial, trivial⟩
/-- The copy of the node, one of its pointers another one. -/
theorem co_left {w w2 : World} {k' v' : Int} {l r l' : Ct} (hl : CoIn w2 l') (hr : CoIn w r) (hf : Fr [] (w.alloc (.cells #[.int .i64 k', .int .i64 v', l.ptr, r.ptr] 93)) w2) (hn : w.heap.size ∉ Co.blks l') :
    CoIn (w2.setCell ⟨w.heap.size, 2, none⟩ l'.ptr) (.node w.heap.size k' v' l' r) ∧ Fr [] w (w2.setCell ⟨w.heap.size, 2, none⟩ l'.ptr) := by
  have h0 := hf.get (heap_alloc_new w (.cells #[.int .i64 k', .int .i64 v', l.ptr, r.ptr] 93)) (by simp)
  have hS : Fr [w.heap.size] w2 (w2.setCell ⟨w.heap.size, 2, none⟩ l'.ptr) := (Fr.refl _ _).setCell (.inl (by simp)) _
  have h2 := ((Fr.refl [] w).alloc (.cells #[.int .i64 k', .int .i64 v', l.ptr, r.ptr] 93)).trans hf
  exact ⟨⟨set_block h0 l'.ptr, hl.fr hS (by simpa using hn), (hr.step h2).fr hS (fun b hb hr' => by simp only [List.mem_singleton] at hb; subst hb; have := hr.lt hr'; omega)⟩, h2.step hS (by simp)⟩
theorem co_right {w w2 : World} {k' v' : Int} {l r r' : Ct} (hr : CoIn w2 r') (hl : CoIn w l) (hf : Fr [] (w.alloc (.cells #[.int .i64 k', .int .i64 v', l.ptr, r.ptr] 93)) w2) (hn : w.heap.size ∉ Co.blks r') :
    CoIn (w2.setCell ⟨w.heap.size, 3, none⟩ r'.ptr) (.node w.heap.size k' v' l r') ∧ Fr [] w (w2.setCell ⟨w.heap.size, 3, none⟩ r'.ptr) := by
  have h0 := hf.get (heap_alloc_new w (.cells #[.int .i64 k', .int .i64 v', l.ptr, r.ptr] 93)) (by simp)
  have hS : Fr [w.heap.size] w2 (w2.setCell ⟨w.heap.size, 3, none⟩ r'.ptr) := (Fr.refl _ _).setCell (.inl (by simp)) _
  have h2 := ((Fr.refl [] w).alloc (.cells #[.int .i64 k', .int .i64 v', l.ptr, r.ptr] 93)).trans hf
  exact ⟨⟨set_block h0 r'.ptr, (hl.step h2).fr hS (fun b hb hl' => by simp only [List.mem_singleton] at hb; subst hb; have := hl.lt hl'; omega), hr.fr hS (by simpa using hn)⟩, h2.step hS (by simp)⟩
theorem CoIn.cells {w : World} {b : Nat} {k v : Int} {l r : Ct} (h : CoIn w (.node b k v l r)) : w.cell? ⟨b, 0, none⟩ = some (.int .i64 k) ∧ w.cell? ⟨b, 1, none⟩ = some (.int .i64 v) ∧ w.cell? ⟨b, 2, none⟩ = some l.ptr ∧ w.cell? ⟨b, 3, none⟩ = some r.ptr := by
  refine ⟨?_, ?_, ?_, ?_⟩ <;> rw [cell_of_row w b _ _ _ _ h.1] <;> rfl
set_option maxRecDepth 100000 in
set_option maxHeartbeats 2000000 in
theorem co_put (k v : Int) : ∀ (T : Ct) (w : World), CoIn w T → Calls Tryd.prog 51 #[T.ptr, .int .i64 k, .int .i64 v] w (CoPutA T k v w) := by
  intro T
  induction T with
  | nil =>
    intro w _
    have hpt : Ct.nil.ptr = .pointer none := rfl
    rw [hpt]
    go_enter Tryd.func51, Tryd.ntmps51
    go_wp2_with fail
    go_ret
    exact ⟨rfl, ⟨heap_alloc_new w _, trivial, trivial⟩, (Fr.refl _ _).alloc _, by simp [Co.way]⟩
  | node b k' v' l r ihl ihr =>
    intro w hIn
    obtain ⟨c0, c1, c2, c3⟩ := hIn.cells
    have HIN := Lib.hid hIn
    obtain ⟨ul, hul⟩ := l.ptr_form
    obtain ⟨ur, hur⟩ := r.ptr_form
    have HUL := Lib.hid hul
    have HUR := Lib.hid hur
    have HIL := Lib.hid (fun W (hW : Fr [] w W) => ihl W (hIn.2.1.step hW))
    have HIR := Lib.hid (fun W (hW : Fr [] w W) => ihr W (hIn.2.2.step hW))
    have HF0 : Hid (Fr [] w (w.alloc (.cells #[.int .i64 k', .int .i64 v', .pointer ul, .pointer ur] 93))) := (Fr.refl _ _).alloc _
    have hb := lt_of_heap hIn.1
    rw [hul] at c2 HIL
    rw [hur] at c3 HIR
    have hpt : (Ct.node b k' v' l r).ptr = .pointer (some ⟨b, 0, none⟩) := rfl
    rw [hpt]
    clear hIn hul hur ihl ihr
    by_cases h1 : k < k'
    · have HP := Lib.hid (fun n => put_lt (b := b) (v := v) (v' := v') (l := l) (r := r) (n := n) h1)
      go_enter Tryd.func51, Tryd.ntmps51
      go_wp2_with (go_at_call 51; (with_reducible refine useC (HIL.out _ HF0.out) ?_); rintro e w2 ⟨rfl, hin, hf, hsz⟩; rw [show (w.alloc (.cells #[.int .i64 k', .int .i64 v', .pointer ul, .pointer ur] 93)).heap.size = w.heap.size + 1 by simp] at hin hsz ⊢; have hblk := hf.get (heap_alloc_new w _) (by simp); have q2 := cell_of_row w2 w.heap.size 2 _ _ _ hblk; have q2f := free_block hblk 2 none; rw [← HUL.out, ← HUR.out] at hf; have hres := co_left hin HIN.out.2.2 hf (fun hm => (by rcases Co.blks_put k v w.heap.size l _ hm with h | h; omega; have := HIN.out.2.1.lt h; omega)); obtain ⟨up, hup⟩ := (Co.put l (w.heap.size + 1) k v).ptr_form; have HUP := Lib.hid hup; rw [hup]; rw [hup] at hres; have HRES := Lib.hid hres; have HSZ := Lib.hid hsz; have q2' : w2.cell? ⟨w.heap.size, 2, none⟩ = some (.pointer ul) := (by rw [q2]; rfl); clear hin hf hsz hblk q2 hup hres)
      go_ret
      have hp := HP.out w.heap.size
      unfold CoPutA
      rw [hp.1, hp.2]
      exact ⟨rfl, HRES.out.1, HRES.out.2, by simp [World.setCell, HSZ.out]; omega⟩
    · by_cases h2 : k' < k
      · have HP := Lib.hid (fun n => put_gt (b := b) (v := v) (v' := v') (l := l) (r := r) (n := n) h2)
        go_enter Tryd.func51, Tryd.ntmps51
        go_wp2_with (go_at_call 51; (with_reducible refine useC (HIR.out _ HF0.out) ?_); rintro e w2 ⟨rfl, hin, hf, hsz⟩; rw [show (w.alloc (.cells #[.int .i64 k', .int .i64 v', .pointer ul, .pointer ur] 93)).heap.size = w.heap.size + 1 by simp] at hin hsz ⊢; have hblk := hf.get (heap_alloc_new w _) (by simp); have q2 := cell_of_row w2 w.heap.size 3 _ _ _ hblk; have q2f := free_block hblk 3 none; rw [← HUL.out, ← HUR.out] at hf; have hres := co_right hin HIN.out.2.1 hf (fun hm => (by rcases Co.blks_put k v w.heap.size r _ hm with h | h; omega; have := HIN.out.2.2.lt h; omega)); obtain ⟨up, hup⟩ := (Co.put r (w.heap.size + 1) k v).ptr_form; have HUP := Lib.hid hup; rw [hup]; rw [hup] at hres; have HRES := Lib.hid hres; have HSZ := Lib.hid hsz; have q2' : w2.cell? ⟨w.heap.size, 3, none⟩ = some (.pointer ur) := (by rw [q2]; rfl); clear hin hf hsz hblk q2 hup hres)
        go_ret
        have hp := HP.out w.heap.size
        unfold CoPutA
        rw [hp.1, hp.2]
        exact ⟨rfl, HRES.out.1, HRES.out.2, by simp [World.setCell, HSZ.out]; omega⟩
      · obtain rfl : k = k' := by omega
        have HP := Lib.hid (fun n => put_eq (b := b) (k := k) (v := v) (v' := v') (l := l) (r := r) (n := n))
        go_enter Tryd.func51, Tryd.ntmps51
        go_wp2_with fail
        go_ret
        have hp := HP.out w.heap.size
        unfold CoPutA
        rw [hp.1, hp.2]
        have hf : Fr [] w (w.alloc (.cells #[.int .i64 k, .int .i64 v, .pointer ul, .pointer ur] 93)) := (Fr.refl _ _).alloc _
        refine ⟨rfl, ⟨?_, HIN.out.2.1.step hf, HIN.out.2.2.step hf⟩, hf, by simp⟩
        rw [HUL.out, HUR.out]
        exact heap_alloc_new w _
end Go.Proofs.YtokbhiokcoldbaaDoor
