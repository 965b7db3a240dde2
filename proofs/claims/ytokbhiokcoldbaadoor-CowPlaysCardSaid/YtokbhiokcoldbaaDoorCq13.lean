/- The contract of package cow: Keys. -/

import Derived.Test.YtokbhiokcoldbaaDoorCq05
import Derived.Test.YtokbhiokcoldbaaDoorCq12
namespace Go.Proofs.YtokbhiokcoldbaaDoor
open Go.RowKit

/-- The first i keys. -/
def Co.keyTo (T : Ct) (i : Nat) : List Int := ((Co.nodes T).take i).map (·.2)
theorem Co.keyTo_len {T : Ct} {i : Nat} (h : i ≤ (Co.nodes T).length) : (Co.keyTo T i).length = i := by unfold Co.keyTo; simp; omega
theorem Co.keyTo_all (T : Ct) : Co.keyTo T (Co.nodes T).length = Co.keys T := by unfold Co.keyTo Co.keys; rw [List.take_length]
theorem Co.keyTo_succ {T : Ct} {i : Nat} (h : i < (Co.nodes T).length) : Co.keyTo T (i + 1) = Co.keyTo T i ++ [((Co.nodes T)[i]).2] := by
  unfold Co.keyTo
  rw [List.take_add_one, List.map_append, List.getElem?_eq_getElem h]
  rfl
/-- Behind i nodes. -/
structure KeysJ (T : Ct) (w0 : World) (vb i : Nat) (w : World) : Prop where
  box : ∃ A c, w.heap[vb]? = some (.cells #[.slice A i c] 25 (0, 0)) ∧ Own w (vb + 1) 3 (.slice A i c) (Co.keyTo T i)
  fr : Fr [] w0 w
  ge : w0.heap.size ≤ vb
  le : i ≤ (Co.nodes T).length
  t0 : CoIn w0 T
set_option maxRecDepth 100000 in
theorem co_keys1 (T : Ct) (w0 : World) (vb : Nat) (hN : (Co.nodes T).length ≤ 900000) : ∀ i (hi : i < (Co.nodes T).length) w, KeysJ T w0 vb i w →
    Calls Tryd.prog 54 #[.pointer (some ⟨((Co.nodes T)[i]).1, 0, none⟩), .pointer (some ⟨vb, 0, none⟩)] w fun e w' => e = .returned (.tuple #[]) ∧ KeysJ T w0 vb (i + 1) w' := by
  intro i hi w hJ
  obtain ⟨A, c, hb, ho⟩ := hJ.box
  have hk := ((hJ.t0.step hJ.fr).key_at _ (List.getElem_mem hi)).1
  have c0 := cell_of_row w vb 0 _ _ _ hb
  have c0 : w.cell? ⟨vb, 0, none⟩ = some (.slice A i c) := by rw [c0]; rfl
  have f0 := free_block hb 0 none
  have HO := Lib.hid ho
  have HB := Lib.hid hb
  have hll : (Co.keyTo T i).length < 1000000 := by rw [Co.keyTo_len hJ.le]; omega
  have HS := Lib.hid (Co.keyTo_succ hi)
  have HL := Lib.hid (Co.keyTo_len (show i + 1 ≤ (Co.nodes T).length from hi))
  have hvb := lt_of_heap hb
  have HQ := Lib.hid (fun W (hW : Fr [] w W) => And.intro (hW.cell c0 (by simp)) (hW.cell hk (by simp)))
  have HJ := Lib.hid hJ
  generalize (Co.nodes T)[i] = p at *
  obtain ⟨b, k⟩ := p
  dsimp only at hk HS HQ
  clear hb ho hJ
  go_enter Tryd.func54, Tryd.ntmps54
  go_wp2_with fail
  (refine wp_region_mix (Fr [] w ·) 6 [(true, 0), (true, 1), (true, 2), (true, 3), (true, 4), (false, 5)] (by kernel_rfl) (by kernel_rfl) ((Fr.refl _ _).drew) ?_; simp only [pickOps, List.map_cons, List.map_nil, List.getD_cons_zero, List.getD_cons_succ, List.drop_succ_cons, List.drop_zero])
  (iterate 5 (first | (refine wpMix_take (v := ?_) (by rfl) ?_ ?_; rotate_left; (focus (intro W hW; obtain ⟨c0, hk⟩ := HQ.out W hW; go_simp; (try with_reducible rfl); done)); try simp only [Act.put, List.setIfInBounds_toArray, List.set_cons_zero, List.set_cons_succ]) | (refine wpMix_leave (by rfl) ?_; try simp only [Act.put, List.setIfInBounds_toArray, List.set_cons_zero, List.set_cons_succ])))
  refine wpMix_walk ?_
  go_wp2
  refine MixQ.mk (((Fr.refl [] w).drew).alloc _) ?_
  refine wpMix_nil ?_
  go_wp2_with (at_builtin; refine wpList_push_int (wr := w.drew) Tryd.intT rfl _ _ rfl (vb + 1) _ _ rfl (HO.out.kept ((Fr.refl [] w).drew) (by simp)) rfl hll (by show vb + 1 ≤ w.heap.size; omega) ?_; intro v' w2 h1 h2 h3; rw [← HS.out] at h1; obtain ⟨_, h5⟩ := h1; rcases h5 with ⟨rfl, h6⟩ | ⟨g', cap', cur', rfl, h5⟩; (rw [HL.out] at h6; exact absurd h6 (by omega)); have hbb := (h3.block vb (by omega)).trans HB.out; have cc := cell_of_row w2 vb 0 _ _ _ hbb; have cc : w2.cell? ⟨vb, 0, none⟩ = some (.slice A i c) := (by rw [cc]; rfl); have ff := free_block hbb 0 none; rw [HL.out] at h5 ⊢; have H5 := Lib.hid h5; have HBB := Lib.hid hbb; have HFF := Lib.hid ((HJ.out.fr.drew).below_step h3 (by have := HJ.out.ge; omega)); clear h5 h2 h3 hbb c0 f0)
  go_returns
  obtain ⟨q1, q2, q3, q4, q5, q6⟩ := H5.out
  have hS : Fr [vb] w2 (w2.setCell ⟨vb, 0, none⟩ (.slice (some ⟨g', 0, none⟩) (i + 1) cap')) := (Fr.refl _ _).setCell (.inl (by simp)) _
  exact ⟨rfl, ⟨⟨_, _, set_block HBB.out _, by unfold Own; rw [HL.out]; exact ⟨by simp [HL.out], .inr ⟨g', cap', cur', rfl, q1, hS.get q2 (by simp; omega), q3, q4, q5, q6⟩⟩⟩, HFF.out.step hS (fun x hx => .inr (by simp only [List.mem_singleton] at hx; subst hx; exact HJ.out.ge)), HJ.out.ge, hi, HJ.out.t0⟩⟩
theorem keysJ_start (T : Ct) (w : World) (hT : CoIn w T) : KeysJ T w w.heap.size 0 (w.alloc (.cells #[.slice none 0 0] 25)) :=
  ⟨⟨none, 0, heap_alloc_new w _, Own.nil _ _ _⟩, (Fr.refl _ _).alloc _, Nat.le_refl _, Nat.zero_le _, hT⟩
/-- What Keys hands back of a version that is there. -/
def CoKeysA (T : Ct) (w : World) (e : Ending) (w' : World) : Prop := ∃ A c, e = .returned (.tuple #[.slice A (Co.keys T).length c, .nilIface]) ∧ Own w' (w.heap.size + 1) 3 (.slice A (Co.keys T).length c) (Co.keys T) ∧ Fr [] w w'
set_option maxRecDepth 100000 in
theorem co_keys (w : World) (B sb : Nat) (st : List Ct) (v : Int) (hS : CoS B w sb st) (hv : Co.has st v) :
    Calls Tryd.prog 13 #[.pointer (some ⟨sb, 0, none⟩), .int .i64 v] w (CoKeysA (Co.tree st v) w) := by
  have HRT := Lib.hid (co_root w B sb st v hS)
  have hr : coRoot st v = .tuple #[(Co.tree st v).ptr, .nilIface] := if_pos hv
  rw [hr] at HRT
  have hin := hS.ins _ (Co.tree_mem hv)
  have hfew := hS.ok.few _ (Co.tree_mem hv)
  have hl := hS.ok.len
  have hN : (Co.nodes (Co.tree st v)).length ≤ 900000 := by omega
  generalize Co.tree st v = T at *
  have HEA := Lib.hid (fun W (h : KeysJ T w w.heap.size 0 W) => each_keys (.pointer (some ⟨w.heap.size, 0, none⟩)) (Co.nodes T) (KeysJ T w w.heap.size) (co_keys1 T w w.heap.size hN) T [] [] W (by simp) (fun i W hJ => hJ.t0.step hJ.fr) h)
  have HST := Lib.hid (keysJ_start T w hin)
  obtain ⟨u, hu⟩ := T.ptr_form
  rw [hu] at HRT HEA
  clear hr hS hv hin hfew hl hN hu
  go_enter Tryd.func13, Tryd.ntmps13
  go_wp2_with (first
    | (go_at_call 49; (with_reducible refine useC HRT.out ?_); rintro e w0 ⟨rfl, rfl⟩)
    | (go_at_call 53; (with_reducible refine useC (HEA.out _ HST.out) ?_); rintro e w1 ⟨rfl, hj⟩; rw [List.length_nil, Nat.zero_add] at hj; obtain ⟨A, c, hb, ho⟩ := hj.box; have c0 := cell_of_row w1 w0.heap.size 0 _ _ _ hb; have c0 : w1.cell? ⟨w0.heap.size, 0, none⟩ = some (.slice A (Co.nodes T).length c) := (by rw [c0]; rfl); have HO := Lib.hid ho; have HF := Lib.hid hj.fr; clear hb ho hj))
  go_ret2
  rw [Co.keyTo_all] at HO
  exact ⟨A, c, by rw [Co.len_keys]; rfl, by rw [Co.len_keys]; exact HO.out, HF.out⟩
theorem co_keys_bad (w : World) (B sb : Nat) (st : List Ct) (v : Int) (hS : CoS B w sb st) (hv : ¬ Co.has st v) :
    Calls Tryd.prog 13 #[.pointer (some ⟨sb, 0, none⟩), .int .i64 v] w fun e w' => e = .returned (.tuple #[.slice none 0 0, .iface 88 (.int .i64 1)]) ∧ w' = w := by
  have HRT := Lib.hid (co_root w B sb st v hS)
  have hr : coRoot st v = .tuple #[.pointer none, .iface 88 (.int .i64 1)] := if_neg hv
  rw [hr] at HRT
  clear hr hS hv
  go_enter Tryd.func13, Tryd.ntmps13
  go_wp2_with (go_at_call 49; (with_reducible refine useC HRT.out ?_); rintro e w ⟨rfl, rfl⟩)
  go_ret2
  exact ⟨rfl, rfl⟩
end Go.Proofs.YtokbhiokcoldbaaDoor
/- As XMix, in two phases: one operation c turns the condition; what c waits for need yield its value ahead of c alone. No program in sight. -/
namespace Go.Proofs.YtokbhiokcoldbaaDoor
open Go
section
variable {P : Program} {ops : Array Oper} {Q : Exit → Act → World → Prop} {md : Region.Mode} {S0 S1 : World → Prop} {n c : Nat}

/-- The condition, by whether c is done. -/
def PS (c : Nat) (S0 S1 : World → Prop) (listed : Array Bool) (w : World) : Prop := if listed.getD c false = true then S1 w else S0 w
def wpAnyP (P : Program) (md : Region.Mode) (ops : Array Oper) (Q : Exit → Act → World → Prop) (c : Nat) (S0 S1 : World → Prop) (n : Nat) : Nat → Array Bool → Act → World → Prop
  | 0, listed, a, w => Region.ready md ops listed = [] ∧ Q .normal a w
  | fuel + 1, listed, a, w =>
    (Region.ready md ops listed = [] → Q .normal a w) ∧
    ∀ i ∈ Region.ready md ops listed, wpOp P ops (if i < n then Calm Q else Q) i (fun a' w' => (i < n → PS c S0 S1 (listed.setIfInBounds i true) w') ∧ wpAnyP P md ops Q c S0 S1 n fuel (listed.setIfInBounds i true) a' w') a w
theorem wpAny_of_P : ∀ (fuel : Nat) (listed : Array Bool) (a : Act) (w : World), wpAnyP P md ops Q c S0 S1 n fuel listed a w → wpAny P md ops Q fuel listed a w
  | 0, _, _, _, h => h
  | fuel + 1, listed, a, w, h => ⟨h.1, fun i hi => by
    have h3 : wpOp P ops Q i (fun a' w' => (i < n → PS c S0 S1 (listed.setIfInBounds i true) w') ∧ wpAnyP P md ops Q c S0 S1 n fuel (listed.setIfInBounds i true) a' w') a w := by
      have h2 := h.2 i hi
      split at h2
      · exact wpOp_congr (Q := Calm Q) (Q' := Q) (fun _ _ _ h => False.elim h) (fun _ _ h => h) h2
      · exact h2
    exact wpOp_mono (fun a' w' h' => wpAny_of_P fuel _ a' w' h'.2) h3⟩
theorem PS.other {listed : Array Bool} {i : Nat} {w : World} (hic : i ≠ c) : PS c S0 S1 (listed.setIfInBounds i true) w ↔ PS c S0 S1 listed w := by
  unfold PS
  rw [getD_set_ne false hic]
theorem wpAnyP_first (ht : tailB md ops n = true) {i : Nat} {oi : Oper} {v : Value} (hi : ops[i]? = some oi) (hsel : ∀ (j : Nat) (o : Oper) cs b, ops[j]? = some o → o.op ≠ .select cs b)
    (hin : i < n) (hic : i ≠ c) (Sx : World → Prop) (hx : ∀ (listed : Array Bool) (w : World), HeadInv md ops n listed → listed.getD i true = false → PS c S0 S1 listed w → Sx w) :
    ∀ (fuel : Nat) (listed : Array Bool) (a : Act) (w : World), HeadInv md ops n listed →
      (∀ j oj, ops[j]? = some oj → j ≠ i → listed.getD j true = false → (∀ e ∈ oj.after, Region.binds md e = true → e.on ≠ i) → oi.apart ops oj = true) →
      i ∈ Region.ready md ops listed → YieldsIf P ops Sx oi v a → PS c S0 S1 listed w →
      wpAnyP P md ops Q c S0 S1 n fuel (listed.setIfInBounds i true) (a.put oi.dst v) w → wpAnyP P md ops Q c S0 S1 n (fuel + 1) listed a w := by
  intro fuel
  induction fuel with
  | zero =>
    intro listed a w inv _ hr hy hS H
    refine ⟨fun h => (by rw [h] at hr; cases hr), fun j hj => ?_⟩
    by_cases hji : j = i
    · subst hji; exact hy.wpOp hi (hx listed w inv (mem_ready.1 hr).1 hS) ⟨fun _ => (PS.other hic).2 hS, H⟩
    · have := ready_mono hj hji
      rw [H.1] at this
      cases this
  | succ fuel ih =>
    intro listed a w inv hfree hr hy hS H
    refine ⟨fun h => (by rw [h] at hr; cases hr), fun j hj => ?_⟩
    have hjn := ready_lt ht inv hr hin j hj
    by_cases hji : j = i
    · subst hji; exact hy.wpOp hi (hx listed w inv (mem_ready.1 hr).1 hS) ⟨fun _ => (PS.other hic).2 hS, H⟩
    · have h1 := H.2 j (ready_mono hj hji)
      rw [if_pos hjn] at h1 ⊢
      obtain ⟨hjun, oj, hoj, hall⟩ := mem_ready.1 hj
      have hnot : ∀ e ∈ oj.after, Region.binds md e = true → e.on ≠ i := fun e he hb heq => by
        have h1 := hall e he hb
        have h0 := (mem_ready.1 hr).1
        rw [heq] at h1
        rcases Nat.lt_or_ge i listed.size with h' | h'
        · simp [h'] at h0 h1; rw [h0] at h1; cases h1
        · simp [Array.getElem?_eq_none h'] at h1
      have h2 := wpOp_putIf hoj (hfree j oj hoj hji hjun hnot) (fun cs b => hsel i oi cs b hi) (fun cs b => hsel j oj cs b hoj) (fun _ _ _ h => h) hy h1
      have hfree' : ∀ k ok, ops[k]? = some ok → k ≠ i → (listed.setIfInBounds j true).getD k true = false →
          (∀ e ∈ ok.after, Region.binds md e = true → e.on ≠ i) → oi.apart ops ok = true := fun k ok hk hki hun hno => by
        refine hfree k ok hk hki ?_ hno
        by_cases hjk : j = k
        · subst hjk; exact hjun
        · rw [getD_set_ne true hjk] at hun; exact hun
      refine wpOp_mono (fun a' w' h3 => ?_) h2
      have hps : PS c S0 S1 (listed.setIfInBounds j true) w' := by
        have := h3.2.1 hjn
        rw [Array.setIfInBounds_comm _ _ (Ne.symm hji)] at this
        exact (PS.other hic).1 this
      refine ⟨fun _ => hps, ih (listed.setIfInBounds j true) a' w' (inv.set hj hjn) hfree' (ready_mono hr (Ne.symm hji)) h3.1 hps ?_⟩
      rw [Array.setIfInBounds_comm _ _ hji]
      exact h3.2.2

/-- Does c wait for i? -/
def waitsB (md : Region.Mode) (ops : Array Oper) (c i : Nat) : Bool := match ops[c]? with
  | some oc => oc.after.any fun e => Region.binds md e && decide (e.on = i)
  | none => false
theorem waits_spec {i : Nat} (h : waitsB md ops c i = true) {listed : Array Bool} (inv : HeadInv md ops n listed) (hi : listed.getD i true = false) : listed.getD c false = false := by
  unfold waitsB at h
  cases hc : ops[c]? with
  | none => rw [hc] at h; cases h
  | some oc =>
    rw [hc] at h
    simp only [Array.any_eq_true', Bool.and_eq_true, decide_eq_true_eq] at h
    obtain ⟨e, he, hb, hon⟩ := h
    cases hl : listed.getD c false with
    | false => rfl
    | true =>
      have := inv.closed c oc hc hl e he hb
      rw [hon, getD_both hi] at this
      cases this
/-- An order that may be walked: 0: taken first, ahead of c; 1: taken first, whenever; 2: walked, ahead of c; 3: c; 4: walked, behind c. -/
def mixpB (md : Region.Mode) (ops : Array Oper) (n c : Nat) : List (Nat × Nat) → Array Bool → Bool
  | [], listed => Region.seqB md ops (ops.size - n) n listed
  | (k, i) :: l, listed => (match k with
      | 0 => (Region.ready md ops listed).contains i && Region.free md ops listed i && waitsB md ops c i && decide (i ≠ c)
      | 1 => (Region.ready md ops listed).contains i && Region.free md ops listed i && decide (i ≠ c)
      | 2 => decide (Region.ready md ops listed = [i]) && decide (i ≠ c) && decide (listed.getD c false = false)
      | 3 => decide (Region.ready md ops listed = [i]) && decide (i = c) && decide (c < listed.size)
      | _ => decide (Region.ready md ops listed = [i]) && decide (i ≠ c) && decide (listed.getD c false = true)) && decide (i < n) && mixpB md ops n c l (listed.setIfInBounds i true)
def pickP (l : List Oper) (pl : List (Nat × Nat)) : List (Nat × Oper) := pl.map fun x => (x.1, l.getD x.2 default)
def wpMixP (P : Program) (ops : Array Oper) (Q : Exit → Act → World → Prop) (S0 S1 : World → Prop) (T : Act → World → Prop) : List (Nat × Oper) → Act → World → Prop
  | [], a, w => T a w
  | (k, o) :: l, a, w => match k with
    | 0 => ∃ v, YieldsIf P ops S0 o v a ∧ wpMixP P ops Q S0 S1 T l (a.put o.dst v) w
    | 1 => ∃ v, YieldsIf P ops (fun w => S0 w ∨ S1 w) o v a ∧ wpMixP P ops Q S0 S1 T l (a.put o.dst v) w
    | 2 => if Region.wanted o (yielded ops a.tmps) then o.wp P a w (fun a' w' => S0 w' ∧ wpMixP P ops Q S0 S1 T l a' w') (Calm Q) ∨ (o.asks P a w ∧ LetsOut Q) else wpMixP P ops Q S0 S1 T l (a.put o.dst undef) w
    | 3 => if Region.wanted o (yielded ops a.tmps) then o.wp P a w (fun a' w' => S1 w' ∧ wpMixP P ops Q S0 S1 T l a' w') (Calm Q) ∨ (o.asks P a w ∧ LetsOut Q) else S1 w ∧ wpMixP P ops Q S0 S1 T l (a.put o.dst undef) w
    | _ => if Region.wanted o (yielded ops a.tmps) then o.wp P a w (fun a' w' => S1 w' ∧ wpMixP P ops Q S0 S1 T l a' w') (Calm Q) ∨ (o.asks P a w ∧ LetsOut Q) else wpMixP P ops Q S0 S1 T l (a.put o.dst undef) w
theorem wpAnyP_of_seq : ∀ (l : List Oper) (k : Nat) (listed : Array Bool) (a : Act) (w : World), n ≤ k → (∀ j, l[j]? = ops[k + j]?) →
    Region.seqB md ops l.length k listed = true → wpList P ops Q l a w → wpAnyP P md ops Q c S0 S1 n l.length listed a w
  | [], _, _, _, _, _, _, hB, h => ⟨by simpa [Region.seqB] using hB, h⟩
  | o :: l, k, listed, a, w, hk, hl, hB, h => by
    have h0 : ops[k]? = some o := by simpa using (hl 0).symm
    simp only [List.length_cons, Region.seqB, Bool.and_eq_true, decide_eq_true_eq] at hB
    refine ⟨fun h1 => (by rw [hB.1] at h1; cases h1), fun i hi => ?_⟩
    rw [hB.1] at hi
    have hik : i = k := by simpa using hi
    subst hik
    have hw : wpOp P ops Q i (wpList P ops Q l) a w := by unfold wpOp; simp only [h0]; exact h
    rw [if_neg (by omega)]
    exact wpOp_mono (fun a' w' h' => ⟨fun hh => absurd hh (by omega), wpAnyP_of_seq l (i + 1) _ a' w' (by omega) (fun j => by have := hl (j + 1); simpa [Nat.add_assoc, Nat.add_comm 1 j] using this) hB.2 h'⟩) hw
theorem getD_ofP {l : List Oper} {i : Nat} {oi : Oper} (h : l.toArray[i]? = some oi) : l.getD i default = oi := by
  simp only [List.getElem?_toArray] at h
  simp [List.getD, h]
theorem wpOp_of_walk {l : List Oper} {i : Nat} {oi : Oper} {R K' : Act → World → Prop} {a : Act} {w : World} (hoi : l.toArray[i]? = some oi) (hin : i < n) (hK : ∀ a' w', R a' w' → K' a' w')
    (h : if Region.wanted oi (yielded l.toArray a.tmps) then oi.wp P a w R (Calm Q) ∨ (oi.asks P a w ∧ LetsOut Q) else R (a.put oi.dst undef) w) : wpOp P l.toArray (if i < n then Calm Q else Q) i K' a w := by
  rw [if_pos hin]
  refine wpOp_mono hK ?_
  unfold wpOp
  simp only [hoi]
  exact h
theorem wpAnyP_of_mix {l : List Oper} (ht : tailB md l.toArray n = true) (hsel : Region.noSelect l.toArray = true) :
    ∀ (pl : List (Nat × Nat)) (listed : Array Bool) (a : Act) (w : World), HeadInv md l.toArray n listed → mixpB md l.toArray n c pl listed = true → PS c S0 S1 listed w →
      wpMixP P l.toArray Q S0 S1 (wpList P l.toArray Q (l.drop n)) (pickP l pl) a w → wpAnyP P md l.toArray Q c S0 S1 n (pl.length + (l.drop n).length) listed a w := by
  intro pl
  induction pl with
  | nil =>
    intro listed a w inv hB hS h
    simp only [List.length_nil, Nat.zero_add]
    exact wpAnyP_of_seq (l.drop n) n listed a w (Nat.le_refl _) (fun j => by simp [List.getElem?_drop]) (by simpa [mixpB] using hB) h
  | cons ki pl ih =>
    intro listed a w inv hB hS h
    obtain ⟨k, i⟩ := ki
    rw [List.length_cons, show pl.length + 1 + (l.drop n).length = pl.length + (l.drop n).length + 1 by omega]
    have h' : wpMixP P l.toArray Q S0 S1 (wpList P l.toArray Q (l.drop n)) ((k, l.getD i default) :: pickP l pl) a w := h
    match k with
    | 0 =>
      simp only [mixpB, Bool.and_eq_true, decide_eq_true_eq] at hB
      obtain ⟨⟨⟨⟨⟨hr, hf⟩, hw⟩, hic⟩, hin⟩, hB'⟩ := hB
      have hr' : i ∈ Region.ready md l.toArray listed := by simpa using hr
      obtain ⟨_, oi, hoi, _⟩ := mem_ready.1 hr'
      rw [getD_ofP hoi] at h'
      obtain ⟨v, hy, h'⟩ := h'
      exact wpAnyP_first ht hoi (Region.noSelect_spec hsel) hin hic S0 (fun listed w inv hi hps => by
        unfold PS at hps
        rw [waits_spec hw inv hi] at hps
        simpa using hps) _ listed a w inv (Region.free_spec hoi hf) hr' hy hS
        (ih _ _ w (inv.set hr' hin) hB' ((PS.other hic).2 hS) h')
    | 1 =>
      simp only [mixpB, Bool.and_eq_true, decide_eq_true_eq] at hB
      obtain ⟨⟨⟨⟨hr, hf⟩, hic⟩, hin⟩, hB'⟩ := hB
      have hr' : i ∈ Region.ready md l.toArray listed := by simpa using hr
      obtain ⟨_, oi, hoi, _⟩ := mem_ready.1 hr'
      rw [getD_ofP hoi] at h'
      obtain ⟨v, hy, h'⟩ := h'
      exact wpAnyP_first ht hoi (Region.noSelect_spec hsel) hin hic (fun w => S0 w ∨ S1 w) (fun listed w inv hi hps => by
        unfold PS at hps
        split at hps
        · exact .inr hps
        · exact .inl hps) _ listed a w inv (Region.free_spec hoi hf) hr' hy hS
        (ih _ _ w (inv.set hr' hin) hB' ((PS.other hic).2 hS) h')
    | 2 =>
      simp only [mixpB, Bool.and_eq_true, decide_eq_true_eq] at hB
      obtain ⟨⟨⟨⟨hr, hic⟩, hlc⟩, hin⟩, hB'⟩ := hB
      have hr' : i ∈ Region.ready md l.toArray listed := by rw [hr]; simp
      obtain ⟨_, oi, hoi, _⟩ := mem_ready.1 hr'
      rw [getD_ofP hoi] at h'
      refine ⟨fun h1 => (by rw [hr] at h1; cases h1), fun j hj => ?_⟩
      rw [hr] at hj
      obtain rfl : j = i := by simpa using hj
      have hps : ∀ w', S0 w' → PS c S0 S1 (listed.setIfInBounds j true) w' := fun w' hw' => (PS.other hic).2 (by unfold PS; rw [hlc]; simpa using hw')
      have hS0 : S0 w := by unfold PS at hS; rw [hlc] at hS; simpa using hS
      refine wpOp_of_walk (R := fun a' w' => S0 w' ∧ wpMixP P l.toArray Q S0 S1 (wpList P l.toArray Q (l.drop n)) (pickP l pl) a' w') hoi hin (fun a' w' h' => ⟨fun _ => hps w' h'.1, ih _ a' w' (inv.set hr' hin) hB' (hps w' h'.1) h'.2⟩) ?_
      simp only [wpMixP] at h'
      split
      · rename_i hw; rw [if_pos hw] at h'; exact h'
      · rename_i hw; rw [if_neg hw] at h'; exact ⟨hS0, h'⟩
    | 3 =>
      simp only [mixpB, Bool.and_eq_true, decide_eq_true_eq] at hB
      obtain ⟨⟨⟨⟨hr, hic⟩, hcs⟩, hin⟩, hB'⟩ := hB
      have hr' : i ∈ Region.ready md l.toArray listed := by rw [hr]; simp
      obtain ⟨_, oi, hoi, _⟩ := mem_ready.1 hr'
      rw [getD_ofP hoi] at h'
      refine ⟨fun h1 => (by rw [hr] at h1; cases h1), fun j hj => ?_⟩
      rw [hr] at hj
      obtain rfl : j = i := by simpa using hj
      subst hic
      have hps : ∀ w', S1 w' → PS j S0 S1 (listed.setIfInBounds j true) w' := fun w' hw' => by
        unfold PS
        rw [if_pos (by simp [hcs])]
        exact hw'
      refine wpOp_of_walk (R := fun a' w' => S1 w' ∧ wpMixP P l.toArray Q S0 S1 (wpList P l.toArray Q (l.drop n)) (pickP l pl) a' w') hoi hin (fun a' w' h' => ⟨fun _ => hps w' h'.1, ih _ a' w' (inv.set hr' hin) hB' (hps w' h'.1) h'.2⟩) ?_
      simp only [wpMixP] at h'
      exact h'
    | k + 4 =>
      simp only [mixpB, Bool.and_eq_true, decide_eq_true_eq] at hB
      obtain ⟨⟨⟨⟨hr, hic⟩, hlc⟩, hin⟩, hB'⟩ := hB
      have hr' : i ∈ Region.ready md l.toArray listed := by rw [hr]; simp
      obtain ⟨_, oi, hoi, _⟩ := mem_ready.1 hr'
      rw [getD_ofP hoi] at h'
      refine ⟨fun h1 => (by rw [hr] at h1; cases h1), fun j hj => ?_⟩
      rw [hr] at hj
      obtain rfl : j = i := by simpa using hj
      have hps : ∀ w', S1 w' → PS c S0 S1 (listed.setIfInBounds j true) w' := fun w' hw' => (PS.other hic).2 (by unfold PS; rw [if_pos hlc]; exact hw')
      have hS0 : S1 w := by unfold PS at hS; rw [if_pos hlc] at hS; exact hS
      refine wpOp_of_walk (R := fun a' w' => S1 w' ∧ wpMixP P l.toArray Q S0 S1 (wpList P l.toArray Q (l.drop n)) (pickP l pl) a' w') hoi hin (fun a' w' h' => ⟨fun _ => hps w' h'.1, ih _ a' w' (inv.set hr' hin) hB' (hps w' h'.1) h'.2⟩) ?_
      simp only [wpMixP] at h'
      split
      · rename_i hw; rw [if_pos hw] at h'; exact h'
      · rename_i hw; rw [if_neg hw] at h'; exact ⟨hS0, h'⟩
/-- **THE LAW.** -/
theorem wp_region_mixp {id : Nat} {a : Act} {w : World} {l : List Oper} (S0 S1 : World → Prop) (n c : Nat) (pl : List (Nat × Nat)) (hm : P.follows .mixedOrders = true)
    (hB : (tailB .any l.toArray n && (Region.noSelect l.toArray && (decide (pl.length + (l.drop n).length = l.length) && mixpB .any l.toArray n c pl (Array.replicate l.length false)))) = true)
    (hS : S0 w.drew)
    (h : wpMixP P l.toArray Q S0 S1 (wpList P l.toArray Q (l.drop n)) (pickP l pl) a w.drew) : (Code.region id l.toArray true).wp P Q a w := by
  simp only [Bool.and_eq_true, decide_eq_true_eq] at hB
  obtain ⟨ht, hsel, hlen, hmix⟩ := hB
  have inv0 : HeadInv .any l.toArray n (Array.replicate l.length false) :=
    ⟨by simp, fun j oj _ hl => (by rw [getD_replicate_false] at hl; cases hl), fun t _ ht => getD_in (by simpa using ht) (getD_replicate_false _ _)⟩
  refine wp_region_any hm (wpAny_of_P (c := c) (S0 := S0) (S1 := S1) (n := n) _ _ _ _ ?_)
  have := wpAnyP_of_mix (c := c) (Q := Q) (S0 := S0) (S1 := S1) (P := P) ht hsel pl _ a w.drew inv0 hmix (by unfold PS; rw [getD_replicate_false]; simpa using hS) h
  rw [hlen] at this
  simpa using this

/-! ### The steps -/
section
variable {T : Act → World → Prop} {l : List (Nat × Oper)} {o : Oper} {a : Act} {w : World}
theorem wpMixP_take {v : Value} (hw : Region.wanted o (yielded ops a.tmps) = true) (h : ∀ W, S0 W → (execOp a.eval o).run P W = .ok (.value v) W)
    (hr : wpMixP P ops Q S0 S1 T l (a.put o.dst v) w) : wpMixP P ops Q S0 S1 T ((0, o) :: l) a w := ⟨v, .inl ⟨hw, h⟩, hr⟩
theorem wpMixP_leave (hw : Region.wanted o (yielded ops a.tmps) = false) (hr : wpMixP P ops Q S0 S1 T l (a.put o.dst undef) w) : wpMixP P ops Q S0 S1 T ((0, o) :: l) a w := ⟨undef, .inr ⟨hw, rfl⟩, hr⟩
theorem wpMixP_take1 {v : Value} (hw : Region.wanted o (yielded ops a.tmps) = true) (h : ∀ W, S0 W ∨ S1 W → (execOp a.eval o).run P W = .ok (.value v) W)
    (hr : wpMixP P ops Q S0 S1 T l (a.put o.dst v) w) : wpMixP P ops Q S0 S1 T ((1, o) :: l) a w := ⟨v, .inl ⟨hw, h⟩, hr⟩
theorem wpMixP_leave1 (hw : Region.wanted o (yielded ops a.tmps) = false) (hr : wpMixP P ops Q S0 S1 T l (a.put o.dst undef) w) : wpMixP P ops Q S0 S1 T ((1, o) :: l) a w := ⟨undef, .inr ⟨hw, rfl⟩, hr⟩
theorem wpMixP_skip (hw : Region.wanted o (yielded ops a.tmps) = false) (hr : wpMixP P ops Q S0 S1 T l (a.put o.dst undef) w) : wpMixP P ops Q S0 S1 T ((2, o) :: l) a w := by
  simp only [wpMixP]; rw [if_neg (by rw [hw]; simp)]; exact hr
/-- What is asked behind an operation that is walked. -/
def MixPQ (P : Program) (ops : Array Oper) (Q : Exit → Act → World → Prop) (S S0 S1 : World → Prop) (T : Act → World → Prop) (l : List (Nat × Oper)) : Exit → Act → World → Prop
  | .normal, a, w => S w ∧ wpMixP P ops Q S0 S1 T l a w
  | .panic _, _, _ => False
  | e, a, w => Q e a w
theorem MixPQ.mk {S : World → Prop} (hS : S w) (h : wpMixP P ops Q S0 S1 T l a w) : MixPQ P ops Q S S0 S1 T l .normal a w := ⟨hS, h⟩
theorem wpMixP_walk (h : wpList P ops (MixPQ P ops Q S0 S0 S1 T l) [o] a w) : wpMixP P ops Q S0 S1 T ((2, o) :: l) a w := by
  simp only [wpMixP]
  unfold wpList at h
  split
  · rename_i hw
    rw [if_pos hw] at h
    rcases h with h | ⟨h1, a0, w0, h2⟩
    · exact .inl (Oper.wp_congr (fun _ _ _ h => h) (fun _ _ h => h) h)
    · exact .inr ⟨h1, a0, w0, h2⟩
  · rename_i hw
    rw [if_neg hw] at h
    exact h.2
theorem wpMixP_turn (h : wpList P ops (MixPQ P ops Q S1 S0 S1 T l) [o] a w) : wpMixP P ops Q S0 S1 T ((3, o) :: l) a w := by
  simp only [wpMixP]
  unfold wpList at h
  split
  · rename_i hw
    rw [if_pos hw] at h
    rcases h with h | ⟨h1, a0, w0, h2⟩
    · exact .inl (Oper.wp_congr (fun _ _ _ h => h) (fun _ _ h => h) h)
    · exact .inr ⟨h1, a0, w0, h2⟩
  · rename_i hw
    rw [if_neg hw] at h
    exact h
theorem wpMixP_behind (h : wpList P ops (MixPQ P ops Q S1 S0 S1 T l) [o] a w) : wpMixP P ops Q S0 S1 T ((4, o) :: l) a w := by
  simp only [wpMixP]
  unfold wpList at h
  split
  · rename_i hw
    rw [if_pos hw] at h
    rcases h with h | ⟨h1, a0, w0, h2⟩
    · exact .inl (Oper.wp_congr (fun _ _ _ h => h) (fun _ _ h => h) h)
    · exact .inr ⟨h1, a0, w0, h2⟩
  · rename_i hw
    rw [if_neg hw] at h
    exact h.2
theorem wpMixP_nil (h : T a w) : wpMixP P ops Q S0 S1 T [] a w := h
end
end
end Go.Proofs.YtokbhiokcoldbaaDoor
