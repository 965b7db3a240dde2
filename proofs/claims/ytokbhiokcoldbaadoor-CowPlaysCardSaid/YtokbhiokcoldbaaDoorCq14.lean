/- The contract of package cow: Put. -/
import Derived.Maps.OwnSet
import Derived.LaidEql
import Derived.MapKept
import Derived.Test.YtokbhiokcoldbaaDoorCq01
import Derived.Test.YtokbhiokcoldbaaDoorCq13
namespace Go.Proofs.YtokbhiokcoldbaaDoor
open Go.RowKit

set_option maxRecDepth 100000 in
theorem co_Put_err (w : World) (B sb : Nat) (st : List Ct) (v k x : Int) (c : Int) (hS : CoS B w sb st) (hc : Co.putErr st v k x = c) (h0 : c ≠ 0) :
    Calls Tryd.prog 11 #[.pointer (some ⟨sb, 0, none⟩), .int .i64 v, .int .i64 k, .int .i64 x] w fun e w' => e = .returned (.tuple #[.int .i64 0, .iface 88 (.int .i64 c)]) ∧ Fr [] w w' := by
  have HRT := Lib.hid (co_root w B sb st v hS)
  unfold Co.putErr at hc
  by_cases hv : Co.has st v
  · have hr : coRoot st v = .tuple #[(Co.tree st v).ptr, .nilIface] := if_pos hv
    rw [hr] at HRT
    rw [if_pos hv] at hc
    obtain ⟨u, hu⟩ := (Co.tree st v).ptr_form
    rw [hu] at HRT
    have HL : Hid (Sl (w.alloc (.cells #[.int .i64 k, .int .i64 x] 3)) (.slice (some ⟨w.heap.size, 0, none⟩) 2 2) w.heap.size [k, x]) := sl_new [k, x] (heap_alloc_new w _) (show 2 ≤ maxLen by decide)
    have HF : Hid (Fr [] w (w.alloc (.cells #[.int .i64 k, .int .i64 x] 3))) := (Fr.refl _ _).alloc _
    obtain ⟨ba, hba⟩ : ∃ b, allIn [k, x] 0 1000 = b := ⟨_, rfl⟩
    have HA := Lib.hid (all_any _ _ _ _ 0 1000 HL.out)
    rw [hba] at HA
    by_cases hk : (0 ≤ k ∧ k ≤ 1000) ∧ (0 ≤ x ∧ x ≤ 1000)
    · rw [if_pos hk] at hc
      obtain rfl : ba = true := by rw [← hba]; simp [allIn]; omega
      by_cases hl : 20 < st.length
      · rw [if_pos hl] at hc
        subst hc
        have hlI : (20 : Int) < st.length := by omega
        have hlt := hS.ok.len.2
        obtain ⟨g, c, cc, -, -⟩ := (hS.step HF.out).facts
        clear hr hu hv hk hl hba h0 hS HL
        go_enter Tryd.func11, Tryd.ntmps11
        go_wp2_with (first
          | (go_at_call 49; (with_reducible refine useC HRT.out ?_); rintro e w ⟨rfl, rfl⟩)
          | (go_at_call 50; (with_reducible refine useC HA.out ?_); rintro e w2 ⟨rfl, rfl⟩))
        go_ret2
        exact ⟨rfl, HF.out⟩
      · rw [if_neg hl] at hc
        exact absurd hc.symm h0
    · rw [if_neg hk] at hc
      subst hc
      obtain rfl : ba = false := by rw [← hba]; simp [allIn]; omega
      clear hr hu hv hk hba h0 hS HL
      go_enter Tryd.func11, Tryd.ntmps11
      go_wp2_with (first
        | (go_at_call 49; (with_reducible refine useC HRT.out ?_); rintro e w ⟨rfl, rfl⟩)
        | (go_at_call 50; (with_reducible refine useC HA.out ?_); rintro e w2 ⟨rfl, rfl⟩))
      go_ret2
      exact ⟨rfl, HF.out⟩
  · have hr : coRoot st v = .tuple #[.pointer none, .iface 88 (.int .i64 1)] := if_neg hv
    rw [hr] at HRT
    rw [if_neg hv] at hc
    subst hc
    clear hr hv h0 hS
    go_enter Tryd.func11, Tryd.ntmps11
    go_wp2_with (go_at_call 49; (with_reducible refine useC HRT.out ?_); rintro e w ⟨rfl, rfl⟩)
    go_ret2
    exact ⟨rfl, Fr.refl _ _⟩
def coPair (k x : Int) : Obj := .cells #[.int .i64 k, .int .i64 x] 3
/-- The row has grown, the store holds it. -/
theorem CoS.grow {B : Nat} {w w2 w4 : World} {sb : Nat} {st : List Ct} {T' : Ct} {g c g' c' : Nat} (h : CoS B w sb st) (hb : w.heap[sb]? = some (.cells #[.slice (some ⟨g, 0, none⟩) st.length c] 81 (0, 0)))
    (hf : Fr [] w w2) (hT : CoIn w2 T') (hg : w2.grownBy w4 (some g)) (ho : OwnR ptE w4 B 84 (.slice (some ⟨g', 0, none⟩) (st.length + 1) c') (st ++ [T'])) (hm : g' = g ∨ w2.heap.size ≤ g') (hok : ∀ m, w2.heap.size ≤ m → Co.OK (st ++ [T']) m) :
    w4.heap[sb]? = some (.cells #[.slice (some ⟨g, 0, none⟩) st.length c] 81 (0, 0)) ∧ CoS B (w4.setCell ⟨sb, 0, none⟩ (.slice (some ⟨g', 0, none⟩) (st.length + 1) c')) sb (st ++ [T']) ∧ CoK sb w (w4.setCell ⟨sb, 0, none⟩ (.slice (some ⟨g', 0, none⟩) (st.length + 1) c')) := by
  obtain ⟨g0, c0, cur, q1, q2, q3, q4, q5, -⟩ := h.row
  rw [hb] at q1
  injection q1 with q1
  injection q1 with q1 _ _
  simp only [Array.mk.injEq, List.cons.injEq, Value.slice.injEq, Option.some.injEq, Addr.mk.injEq, and_true, true_and] at q1
  obtain ⟨rfl, rfl⟩ := q1
  have hsb := lt_of_heap hb
  have hgl := lt_of_heap q2
  have hsz := hf.size
  have hg'sb : g' ≠ sb := by rcases hm with rfl | hm; exact q4; omega
  have hfg : Fr [g] w2 w4 := (Fr.refl [g] w2).grown hg (fun x hx => by injection hx with hx; subst hx; simp)
  have hf4 : Fr [g] w w4 := hf.nil.trans hfg
  have hb4 := hf4.get hb (by simpa using Ne.symm q4)
  have hS : Fr [sb] w4 (w4.setCell ⟨sb, 0, none⟩ (.slice (some ⟨g', 0, none⟩) (st.length + 1) c')) := (Fr.refl _ _).setCell (.inl (by simp)) _
  have hf5 : FrP (CoF w sb) w (w4.setCell ⟨sb, 0, none⟩ (.slice (some ⟨g', 0, none⟩) (st.length + 1) c')) := by
    refine ((FrP.refl _ w).step hf4 (fun x hx => .inl ?_)).step hS (fun x hx => .inl (.inl (by simpa using hx)))
    simp only [List.mem_singleton] at hx
    subst hx
    exact .inr ⟨_, by rw [cell_of_row w sb 0 _ _ _ hb]; rfl, rfl⟩
  have keep : ∀ T, CoIn w2 T → CoIn (w4.setCell ⟨sb, 0, none⟩ (.slice (some ⟨g', 0, none⟩) (st.length + 1) c')) T := fun T hT => by
    refine (hT.fr hfg (fun b hbm hbb => ?_)).fr hS (fun b hbm hbb => ?_)
    · simp only [List.mem_singleton] at hbm
      subst hbm
      exact (h.step hf).apart hT b (.inr ⟨_, by rw [cell_of_row w2 sb 0 _ _ _ (hf.get hb (by simp))]; rfl, rfl⟩) hbb
    · simp only [List.mem_singleton] at hbm
      subst hbm
      exact (h.step hf).apart hT b (.inl rfl) hbb
  have hlen : (st ++ [T']).length = st.length + 1 := by rw [List.length_append, List.length_singleton]
  refine ⟨hb4, ⟨h.ge, ⟨.slice (some ⟨g', 0, none⟩) (st.length + 1) c', g', c', by rw [hlen]; exact set_block hb4 _, by rw [hlen], ho.kept hS (fun x hx hq => ?_)⟩, fun T hTm => ?_, hok _ (by simp [World.setCell]; exact hg.size)⟩, hf5, ?_⟩
  · simp only [List.mem_singleton] at hx
    subst hx
    simp [Value.ownBlock] at hq
    exact hg'sb hq
  · rcases List.mem_append.1 hTm with hTm | hTm
    · exact keep T ((h.ins T hTm).step hf)
    · simp only [List.mem_singleton] at hTm
      subst hTm
      exact keep T hT
  · rintro x (rfl | ⟨u, hu, hx⟩)
    · exact .inl (.inl rfl)
    · rw [cell_of_row _ sb 0 _ _ _ (set_block hb4 _)] at hu
      simp at hu
      subst hu
      simp [Value.ownBlock] at hx
      subst hx
      rcases hm with rfl | hm
      · exact .inl (.inr ⟨_, by rw [cell_of_row w sb 0 _ _ _ hb]; rfl, rfl⟩)
      · exact .inr (by omega)
def CoPutOK (B sb : Nat) (st : List Ct) (v k x : Int) (w : World) (e : Ending) (w' : World) : Prop :=
  ∃ N, w.heap.size ≤ N ∧ e = .returned (.tuple #[.int .i64 (st.length : Int), .nilIface]) ∧ CoS B w' sb (st ++ [Co.put (Co.tree st v) N k x]) ∧ CoK sb w w'
set_option maxRecDepth 100000 in
set_option maxHeartbeats 2000000 in
theorem co_Put_ok (w : World) (B sb : Nat) (st : List Ct) (v k x : Int) (hS : CoS B w sb st) (hB : B ≤ w.heap.size) (hc : Co.putErr st v k x = 0) :
    Calls Tryd.prog 11 #[.pointer (some ⟨sb, 0, none⟩), .int .i64 v, .int .i64 k, .int .i64 x] w (CoPutOK B sb st v k x w) := by
  have HRT := Lib.hid (co_root w B sb st v hS)
  have HC := Lib.hid hc
  unfold Co.putErr at hc
  by_cases hv : Co.has st v
  · have hr : coRoot st v = .tuple #[(Co.tree st v).ptr, .nilIface] := if_pos hv
    rw [hr] at HRT
    rw [if_pos hv] at hc
    by_cases hk : (0 ≤ k ∧ k ≤ 1000) ∧ (0 ≤ x ∧ x ≤ 1000)
    · rw [if_pos hk] at hc
      by_cases hl : 20 < st.length
      · rw [if_pos hl] at hc; cases hc
      · have hlI : ¬ (20 : Int) < st.length := by omega
        have hl0 : (0 : Int) ≤ st.length := by omega
        have hl9 : (st.length : Int) ≤ 20 := by omega
        have HL : Hid (Sl (w.alloc (.cells #[.int .i64 k, .int .i64 x] 3)) (.slice (some ⟨w.heap.size, 0, none⟩) 2 2) w.heap.size [k, x]) := sl_new [k, x] (heap_alloc_new w _) (show 2 ≤ maxLen by decide)
        have HF : Hid (Fr [] w (w.alloc (.cells #[.int .i64 k, .int .i64 x] 3)).drew) := ((Fr.refl _ _).alloc _).drew
        have HA := Lib.hid (all_any _ _ _ _ 0 1000 HL.out)
        rw [show allIn [k, x] 0 1000 = true by simp [allIn]; omega] at HA
        have HIN := Lib.hid ((hS.ins _ (Co.tree_mem hv)).step HF.out)
        have HPT := Lib.hid (co_put k x _ _ HIN.out)
        have hsz : (w.alloc (.cells #[.int .i64 k, .int .i64 x] 3)).drew.heap.size = w.heap.size + 1 := by show (w.alloc _).heap.size = _; simp
        obtain ⟨g, c, cur, q1, q2, q3, q4, q5, -⟩ := (hS.step HF.out).row
        have cc : (w.alloc (.cells #[.int .i64 k, .int .i64 x] 3)).drew.cell? ⟨sb, 0, none⟩ = some (.slice (some ⟨g, 0, none⟩) st.length c) := by rw [cell_of_row _ sb 0 _ _ _ q1]; rfl
        have cc' : (w.alloc (.cells #[.int .i64 k, .int .i64 x] 3)).cell? ⟨sb, 0, none⟩ = some (.slice (some ⟨g, 0, none⟩) st.length c) := cc
        have HST := Lib.hid (hS.step HF.out)
        have HQ1 := Lib.hid q1
        have HQ3 := Lib.hid q3
        have HQ4 := Lib.hid (And.intro q4 (And.intro q5 (lt_of_heap q2)))
        obtain ⟨u, hu⟩ := (Co.tree st v).ptr_form
        rw [hu] at HRT HPT
        have HOKS := Lib.hid hS.ok
        have HBS := Lib.hid hB
        have HOKB := Lib.hid hS
        clear hr hu hv hk hl hc hS HL q1 q2 q3 q4 q5 hB
        go_enter Tryd.func11, Tryd.ntmps11
        go_wp2_with (first
          | (go_at_call 49; (with_reducible refine useC HRT.out ?_); rintro e w0 ⟨rfl, rfl⟩)
          | (go_at_call 50; (with_reducible refine useC HA.out ?_); rintro e w1 ⟨rfl, rfl⟩))
        have HQ := Lib.hid (fun W (hW : Fr [] (w0.alloc (.cells #[.int .i64 k, .int .i64 x] 3)).drew W) => hW.cell cc (by simp))
        (refine wp_region_mixp (Fr [] (w0.alloc (coPair k x)).drew ·) (fun _ => True) 11 10 [(1, 0), (1, 1), (1, 2), (1, 3), (0, 4), (1, 5), (1, 6), (1, 7), (2, 8), (2, 9), (3, 10)] (by kernel_rfl) (by kernel_rfl) (Fr.refl _ _) ?_; simp only [pickP, List.map_cons, List.map_nil, List.getD_cons_zero, List.getD_cons_succ, List.drop_succ_cons, List.drop_zero])
        unfold coPair
        (iterate 4 (first | (refine wpMixP_take1 (v := ?_) (by rfl) ?_ ?_; rotate_left; (focus (intro W _; go_simp; (try with_reducible rfl); done)); try simp only [Act.put, List.setIfInBounds_toArray, List.set_cons_zero, List.set_cons_succ]) | (refine wpMixP_leave1 (by rfl) ?_; try simp only [Act.put, List.setIfInBounds_toArray, List.set_cons_zero, List.set_cons_succ])))
        (iterate 1 (first | (refine wpMixP_take (v := ?_) (by rfl) ?_ ?_; rotate_left; (focus (intro W hW; have cc := HQ.out W hW; go_simp; (try with_reducible rfl); done)); try simp only [Act.put, List.setIfInBounds_toArray, List.set_cons_zero, List.set_cons_succ]) | (refine wpMixP_leave (by rfl) ?_; try simp only [Act.put, List.setIfInBounds_toArray, List.set_cons_zero, List.set_cons_succ])))
        (iterate 3 (first | (refine wpMixP_take1 (v := ?_) (by rfl) ?_ ?_; rotate_left; (focus (intro W _; go_simp; (try with_reducible rfl); done)); try simp only [Act.put, List.setIfInBounds_toArray, List.set_cons_zero, List.set_cons_succ]) | (refine wpMixP_leave1 (by rfl) ?_; try simp only [Act.put, List.setIfInBounds_toArray, List.set_cons_zero, List.set_cons_succ])))
        clear cc cc' HQ
        generalize (w0.alloc (.cells #[.int .i64 k, .int .i64 x] 3)).drew = wD at HF HIN HPT hsz HST HQ1 HQ3 HQ4 ⊢
        refine wpMixP_walk ?_
        go_wp2_with (go_at_call 51; (with_reducible refine useC HPT.out ?_); rintro e w2 ⟨rfl, hin, hf, hs2⟩; have HSN := Lib.hid hsz; obtain ⟨T', hT'⟩ : ∃ T', Co.put (Co.tree st v) wD.heap.size k x = T' := ⟨_, rfl⟩; have HT := Lib.hid hT'; rw [hT'] at hin ⊢; obtain ⟨up, hup⟩ := T'.ptr_form; have HUP := Lib.hid hup; rw [hup]; have HI2 := Lib.hid hin; have HF2 := Lib.hid hf; have HS2 := Lib.hid hs2; clear hin hf hs2 hup hT' hsz)
        refine MixPQ.mk (HF2.out) ?_
        refine wpMixP_walk ?_
        go_wp2
        refine MixPQ.mk (HF2.out.alloc _) ?_
        refine wpMixP_turn ?_
        have HSD := Lib.hid (HST.out.step HF2.out)
        have hbw : B ≤ w2.heap.size := by have := HBS.out; have := HF.out.size; have := HF2.out.size; omega
        have hst : st.length < 1000000 := by omega
        have hwe : w2.alloc (.cells #[.pointer up] 84) = w2.alloc (.cells (ptE.enc T').toArray 84) := by
          show _ = w2.alloc (.cells [T'.ptr].toArray _)
          rw [HUP.out]
        have HWE := Lib.hid hwe
        clear hwe
        go_wp2_with (at_builtin; refine wpList_push_enc2 (E := ptE) (y := T') (wr := w2) Tryd.underlying79 Tryd.info_ptn rfl (by decide) rfl _ _ rfl B (.slice (some ⟨g, 0, none⟩) st.length c) st rfl HWE.out (HQ3.out.kept HF2.out (by simp)) rfl hst hbw ?_; intro v' w4 h1 h2 h3; obtain ⟨h4, h5⟩ := h1; rcases h5 with ⟨rfl, h6⟩ | ⟨g', cap', cur', rfl, h5⟩; (simp at h6); rw [show (st ++ [T']).length = st.length + 1 from by simp] at h4 h5 ⊢; have hgr := HST.out.grow (T' := T') (g' := g') (c' := cap') HQ1.out HF2.out HI2.out h2 ⟨by rw [h4]; simp, .inr ⟨g', cap', cur', by simp, by simpa using h5⟩⟩ (h3.elim (fun h => .inl (by simpa [Value.ownBlock] using h)) (fun h => .inr (by simp [Value.ownBlock] at h; omega))) (fun m hm => (by rw [← HT.out]; exact HOKS.out.mono (by rw [HSN.out]; omega) |>.put HC.out (by rw [← HS2.out]; exact hm))); have cc := cell_of_row w4 sb 0 _ _ _ hgr.1; have cc : w4.cell? ⟨sb, 0, none⟩ = some (.slice (some ⟨g, 0, none⟩) st.length c) := (by rw [cc]; rfl); have ff := free_block hgr.1 0 none; have HGR := Lib.hid hgr.2; clear h2 h3 h4 h5 hgr)
        refine MixPQ.mk (trivial) ?_
        refine wpMixP_nil ?_
        go_wp2
        go_ret2
        exact ⟨wD.heap.size, by rw [HSN.out]; omega, by simp, by rw [HT.out]; exact HGR.out.1, (CoK.of_fr (HOKB.out) HF.out).trans HGR.out.2⟩
    · rw [if_neg hk] at hc; cases hc
  · rw [if_neg hv] at hc; cases hc
end Go.Proofs.YtokbhiokcoldbaaDoor
/- Sets of pointers (maps to bool): what a call reads, and adds. No program in sight. -/
namespace Go.Proofs.YtokbhiokcoldbaaDoor
open Go.RowKit

/-- Block m is a set of pointers at the heads of the blocks L. -/
def PSet (w : World) (m : Nat) (L : List Nat) : Prop := ∃ es clk, w.heap[m]? = some (.map es clk) ∧ es.toList.map (fun e => (e.key, e.val)) = L.map fun b => (Value.pointer (some ⟨b, 0, none⟩), Value.bool true)
/-- The block is a plain row of cells. -/
def Plain (w : World) (b : Nat) : Prop := ∃ cs t, w.heap[b]? = some (.cells cs t (0, 0))
theorem PSet.fr {S : List Nat} {w w' : World} {m : Nat} {L : List Nat} (h : PSet w m L) (hf : Fr S w w') (hm : m ∉ S) : PSet w' m L := by
  obtain ⟨es, clk, h1, h2⟩ := h
  exact ⟨es, clk, hf.get h1 hm, h2⟩
theorem PSet.made (w : World) : PSet (w.alloc (.map #[] 0)) w.heap.size [] := ⟨#[], 0, heap_alloc_new w _, rfl⟩
theorem PSet.lt {w : World} {m : Nat} {L : List Nat} (h : PSet w m L) : m < w.heap.size := by
  obtain ⟨es, clk, h1, _⟩ := h
  exact lt_of_heap h1
section
variable {P : Program} {w : World} {k el e t : TypeId} {i : TypeInfo} {x : Nat}
theorem run_eqIn_ptr (d : Nat) (hk : P.underlying k = some (.pointer el)) (hi : P.info? el = some i) (hz : i.size ≠ 0) {a b : Addr} {r : Bool} (hs : (sameAddr a b).run P w = .ok r w) :
    (Op.equalIn (d + 1) k (.pointer (some a)) (.pointer (some b))).run P w = .ok r w := by
  simp [Op.equalIn, run_underlying hk, sizeOf, typeInfo, hi, hz, hs]
theorem run_eq_ptr (hk : P.underlying k = some (.pointer el)) (hi : P.info? el = some i) (hz : i.size ≠ 0) {a b : Nat} (ha : Plain w a) (hb : Plain w b) :
    (Op.equal k (.pointer (some ⟨a, 0, none⟩)) (.pointer (some ⟨b, 0, none⟩))).run P w = .ok (decide (a = b)) w := by
  obtain ⟨ca, ta, ha⟩ := ha
  obtain ⟨cb, tb, hb⟩ := hb
  have hs : (sameAddr ⟨a, 0, none⟩ ⟨b, 0, none⟩).run P w = .ok (decide (a = b)) w := by
    by_cases hab : a = b
    · subst hab
      rw [run_sameAddr_same]; simp
    · rw [run_sameAddr_other w (a := ⟨a, 0, none⟩) (b := ⟨b, 0, none⟩) (fun h => hab (by injection h)) ha hb]; simp [hab]
  exact run_eqIn_ptr 9999 hk hi hz hs
theorem run_asking (hk : P.underlying k = some (.pointer el)) (hi : P.info? el = some i) (hz : i.size ≠ 0) (hx : Plain w x) : ∀ (es : List MapEntry) (L : List Nat) (n : Nat),
    es.map (fun e => (e.key, e.val)) = L.map (fun b => (Value.pointer (some ⟨b, 0, none⟩), Value.bool true)) → (∀ b ∈ L, Plain w b) →
    ∃ r, (Instr.findAsking k (.pointer (some ⟨x, 0, none⟩)) es n).run P w = .ok r w ∧ (x ∉ L → r = none) ∧ (x ∈ L → ∃ j, r = some (j, .bool true))
  | [], [], n, _, _ => ⟨none, by simp [Instr.findAsking], fun _ => rfl, fun h => by simp at h⟩
  | [], _ :: _, _, h, _ => by simp at h
  | _ :: _, [], _, h, _ => by simp at h
  | en :: es, b :: L, n, h, hL => by
    simp only [List.map_cons, List.cons.injEq, Prod.mk.injEq] at h
    obtain ⟨⟨h1, h2⟩, h3⟩ := h
    have he := run_eq_ptr hk hi hz hx (hL b (by simp))
    by_cases hxb : x = b
    · subst hxb
      refine ⟨some (n, .bool true), ?_, fun hn => absurd (by simp) hn, fun _ => ⟨n, rfl⟩⟩
      unfold Instr.findAsking
      simp [Sem.run_bind, h1, h2, he, Result.andThen]
    · obtain ⟨r, hr, r1, r2⟩ := run_asking hk hi hz hx es L (n + 1) h3 (fun c hc => hL c (by simp [hc]))
      refine ⟨r, ?_, fun hn => r1 (fun hm => hn (by simp [hm])), fun hm => r2 (by simpa [hxb] using hm)⟩
      unfold Instr.findAsking
      simp [Sem.run_bind, h1, he, hxb, Result.andThen, hr]
theorem run_find (hk : P.underlying k = some (.pointer el)) (hi : P.info? el = some i) (hz : i.size ≠ 0) (hx : Plain w x) (es : List MapEntry) (L : List Nat)
    (h : es.map (fun e => (e.key, e.val)) = L.map (fun b => (Value.pointer (some ⟨b, 0, none⟩), Value.bool true))) (hL : ∀ b ∈ L, Plain w b) :
    ∃ r, (Instr.findKey k (.pointer (some ⟨x, 0, none⟩)) es).run P w = .ok r w ∧ (x ∉ L → r = none) ∧ (x ∈ L → ∃ j, r = some (j, .bool true)) := by
  cases es with
  | nil =>
    cases L with
    | nil => exact ⟨none, by simp [Instr.findKey, run_underlying hk, Instr.findNow], fun _ => rfl, fun h => by simp at h⟩
    | cons b L => simp at h
  | cons en es =>
    obtain ⟨r, hr, h1, h2⟩ := run_asking hk hi hz hx (en :: es) L 0 h hL
    refine ⟨r, ?_, h1, h2⟩
    have hen : ∃ b, en.key = .pointer (some ⟨b, 0, none⟩) := by
      cases L with
      | nil => simp at h
      | cons b L =>
        simp only [List.map_cons, List.cons.injEq, Prod.mk.injEq] at h
        exact ⟨b, h.1.1⟩
    obtain ⟨b, hb⟩ := hen
    simp [Instr.findKey, run_underlying hk, Instr.findNow, Instr.sameNow, hb, hr]
theorem run_checkIn_ptr (d : Nat) (hk : P.underlying k = some (.pointer el)) (v : Option Addr) (b : Bool) : (Instr.checkKey b (d + 1) k (.pointer v)).run P w = .ok () w := by
  simp [Instr.checkKey, run_underlying hk]
theorem run_check_ptr (hk : P.underlying k = some (.pointer el)) (v : Option Addr) (b : Bool) : (Instr.checkKey b 10000 k (.pointer v)).run P w = .ok () w := run_checkIn_ptr 9999 hk v b
theorem run_lookup_pset (ht : P.underlying t = some (.map k e)) (hk : P.underlying k = some (.pointer el)) (hi : P.info? el = some i) (hz : i.size ≠ 0) (he : (zeroValue e).run P w = .ok (.bool false) w)
    {m : Nat} {L : List Nat} (h : PSet w m L) (hx : Plain w x) (hL : ∀ b ∈ L, Plain w b) : (Instr.lookup t (.map (some m)) (.pointer (some ⟨x, 0, none⟩)) false).run P w = .ok (.bool (L.contains x)) w := by
  obtain ⟨es, clk, hb, h2⟩ := h
  obtain ⟨r, hr, r1, r2⟩ := run_find hk hi hz hx es.toList L h2 hL
  by_cases hxL : x ∈ L
  · obtain ⟨j, rfl⟩ := r2 hxL
    rw [show L.contains x = true by simpa using hxL]
    simp [Instr.lookup, run_underlying ht, MapKept.run_getObj_map hb, run_check_ptr hk, hr, Result.andThen]
  · obtain rfl := r1 hxL
    rw [show L.contains x = false by simpa using hxL]
    simp [Instr.lookup, run_underlying ht, MapKept.run_getObj_map hb, run_check_ptr hk, hr, he, Result.andThen]
theorem run_update_pset (ht : P.underlying t = some (.map k e)) (hk : P.underlying k = some (.pointer el)) (hi : P.info? el = some i) (hz : i.size ≠ 0)
    {m : Nat} {L : List Nat} (h : PSet w m L) (hx : Plain w x) (hL : ∀ b ∈ L, Plain w b) (hn : x ∉ L) :
    ∃ w', (Instr.mapUpdate t (.map (some m)) (.pointer (some ⟨x, 0, none⟩)) (.bool true)).run P w = .ok () w' ∧ PSet w' m (L ++ [x]) ∧ Fr [m] w w' := by
  obtain ⟨es, clk, hb, h2⟩ := h
  obtain ⟨r, hr, r1, r2⟩ := run_find hk hi hz hx es.toList L h2 hL
  obtain rfl := r1 hn
  have hlt := lt_of_heap hb
  refine ⟨{ w with heap := w.heap.setIfInBounds m (.map (es.push { key := .pointer (some ⟨x, 0, none⟩), val := .bool true, born := clk }) (clk + 1)) }, ?_, ⟨es.push { key := .pointer (some ⟨x, 0, none⟩), val := .bool true, born := clk }, clk + 1, ?_, ?_⟩, ⟨rfl, rfl, rfl, by simp, fun j hj hjm => ?_⟩⟩
  · simp [Instr.mapUpdate, run_underlying ht, MapKept.run_getObj_map hb, run_check_ptr hk, hr, MapKept.run_setObj_map _ hb, Result.andThen]
  · simp [hlt]
  · rw [Array.toList_push, List.map_append, h2, List.map_append]; rfl
  · simp only [List.mem_singleton] at hjm
    simp [Array.getElem?_setIfInBounds, Ne.symm hjm]
end
end Go.Proofs.YtokbhiokcoldbaaDoor
