/- A law for a region that draws its order: what yields the same in every world that meets S is taken first, in an order that is written down; the other operations follow each other; the last ones need not give S anew. No program in sight. -/
import Derived.OrdersHeld
import Derived.StillTail
import Derived.WalkKit
import Derived.Deep.Cut
import Derived.Deep.CutRange
import Derived.Deep.CutBlock
import Derived.Test.YtnglhfeialomgaaGreatDoorTz05
import Derived.Test.YtnglhfeialomgaaGreatDoorTz07
namespace Go.Proofs.YtnglhfeialomgaaGreatDoor
open Go
section
variable {P : Program} {ops : Array Oper} {Q : Exit → Act → World → Prop} {md : Region.Mode} {S : World → Prop} {n : Nat}

/-- Q, but 'False' at a panic. -/
def Calm (Q : Exit → Act → World → Prop) : Exit → Act → World → Prop
  | .panic _, _, _ => False
  | e, a, w => Q e a w
theorem Oper.wp_congr {o : Oper} {a : Act} {w : World} {K : Act → World → Prop} {Q Q' : Exit → Act → World → Prop} (hp : ∀ c a w, Q (.panic c) a w → Q' (.panic c) a w) (ho : ∀ a w, Q .outgrown a w → Q' .outgrown a w) (h : o.wp P a w K Q) : o.wp P a w K Q' := by
  unfold Oper.wp at *
  generalize (execOp a.eval o).run P w = r at *
  cases r with
  | ok x w' =>
    cases x with
    | enter f args =>
      simp only [Oper.upon] at h ⊢
      refine Calls.mono h fun e w'' he => ?_
      cases e with
      | returned u => exact he
      | panicked c => exact hp _ _ _ he
      | outgrown => obtain ⟨a0, w0, h0⟩ := he; exact ⟨a0, w0, ho _ _ h0⟩
    | _ => exact h
  | halt x w' =>
    cases x with
    | panic u => exact hp _ _ _ h
    | _ => exact h
theorem wpOp_congr {Q' : Exit → Act → World → Prop} (hp : ∀ c a w, Q (.panic c) a w → Q' (.panic c) a w) (ho : ∀ a w, Q .outgrown a w → Q' .outgrown a w) {i : Nat} {K : Act → World → Prop} {a : Act} {w : World} (h : wpOp P ops Q i K a w) : wpOp P ops Q' i K a w := by
  unfold wpOp at *
  split
  · rename_i hn; simpa [hn] using h
  · rename_i o hn
    simp only [hn] at h
    split
    · rename_i hw
      rw [if_pos hw] at h
      rcases h with h | ⟨h1, a0, w0, h2⟩
      · exact .inl (Oper.wp_congr hp ho h)
      · exact .inr ⟨h1, a0, w0, ho _ _ h2⟩
    · rename_i hw
      rw [if_neg hw] at h
      exact h
/-- Whatever order is picked from here on; S holds behind every operation but those from n on. -/
def wpAnyT (P : Program) (md : Region.Mode) (ops : Array Oper) (Q : Exit → Act → World → Prop) (S : World → Prop) (n : Nat) : Nat → Array Bool → Act → World → Prop
  | 0, listed, a, w => Region.ready md ops listed = [] ∧ Q .normal a w
  | fuel + 1, listed, a, w =>
    (Region.ready md ops listed = [] → Q .normal a w) ∧
    ∀ i ∈ Region.ready md ops listed, wpOp P ops (if i < n then Calm Q else Q) i (fun a' w' => (i < n → S w') ∧ wpAnyT P md ops Q S n fuel (listed.setIfInBounds i true) a' w') a w
theorem wpAny_of_T : ∀ (fuel : Nat) (listed : Array Bool) (a : Act) (w : World), wpAnyT P md ops Q S n fuel listed a w → wpAny P md ops Q fuel listed a w
  | 0, _, _, _, h => h
  | fuel + 1, listed, a, w, h => ⟨h.1, fun i hi => by
    have h3 : wpOp P ops Q i (fun a' w' => (i < n → S w') ∧ wpAnyT P md ops Q S n fuel (listed.setIfInBounds i true) a' w') a w := by
      have h2 := h.2 i hi
      split at h2
      · rename_i hin
        have h4 : wpOp P ops Q i (fun a' w' => (i < n → S w') ∧ wpAnyT P md ops Q S n fuel (listed.setIfInBounds i true) a' w') a w := wpOp_congr (Q := Calm Q) (Q' := Q) (fun _ _ _ h => False.elim h) (fun _ _ h => h) h2
        exact h4
      · exact h2
    exact wpOp_mono (fun a' w' h' => wpAny_of_T fuel _ a' w' h'.2) h3⟩
/-- Does the tail from n on wait for all that is ahead of it? -/
def tailB (md : Region.Mode) (ops : Array Oper) (n : Nat) : Bool := decide (ops.size ≤ n) || (Region.sinkB md ops n && Region.chainB md ops n)
theorem ready_lt (ht : tailB md ops n = true) {listed : Array Bool} (inv : HeadInv md ops n listed) {i : Nat} (hi : i ∈ Region.ready md ops listed) (hin : i < n) : ∀ j ∈ Region.ready md ops listed, j < n := by
  intro j hj
  simp only [tailB, Bool.or_eq_true, decide_eq_true_eq, Bool.and_eq_true] at ht
  obtain ⟨_, oj, hoj, _⟩ := mem_ready.1 hj
  have hjs := (Array.getElem?_eq_some_iff.1 hoj).1
  rcases ht with ht | ⟨h1, h2⟩
  · omega
  · rcases Nat.lt_or_ge j n with h | h
    · exact h
    · exact absurd hj (tail_waits h1 h2 (by omega) inv _ i rfl hin (mem_ready.1 hi).1 j h)
theorem wpAnyT_first (ht : tailB md ops n = true) {i : Nat} {oi : Oper} {v : Value} (hi : ops[i]? = some oi) (hsel : ∀ (j : Nat) (o : Oper) cs b, ops[j]? = some o → o.op ≠ .select cs b)
    (hin : i < n) :
    ∀ (fuel : Nat) (listed : Array Bool) (a : Act) (w : World), HeadInv md ops n listed →
      (∀ j oj, ops[j]? = some oj → j ≠ i → listed.getD j true = false → (∀ e ∈ oj.after, Region.binds md e = true → e.on ≠ i) → oi.apart ops oj = true) →
      i ∈ Region.ready md ops listed → YieldsIf P ops S oi v a → S w →
      wpAnyT P md ops Q S n fuel (listed.setIfInBounds i true) (a.put oi.dst v) w → wpAnyT P md ops Q S n (fuel + 1) listed a w := by
  intro fuel
  induction fuel with
  | zero =>
    intro listed a w inv _ hr hy hS H
    refine ⟨fun h => (by rw [h] at hr; cases hr), fun j hj => ?_⟩
    by_cases hji : j = i
    · subst hji; exact hy.wpOp hi hS ⟨fun _ => hS, H⟩
    · have := ready_mono hj hji
      rw [H.1] at this
      cases this
  | succ fuel ih =>
    intro listed a w inv hfree hr hy hS H
    refine ⟨fun h => (by rw [h] at hr; cases hr), fun j hj => ?_⟩
    have hjn := ready_lt ht inv hr hin j hj
    by_cases hji : j = i
    · subst hji; exact hy.wpOp hi hS ⟨fun _ => hS, H⟩
    · have h1 := H.2 j (ready_mono hj hji)
      rw [if_pos hjn] at h1 ⊢
      obtain ⟨hjun, oj, hoj, hall⟩ := mem_ready.1 hj
      have hnot : ∀ e ∈ oj.after, Region.binds md e = true → e.on ≠ i := fun e he hb heq => by
        have h1 := hall e he hb
        have h0 := (mem_ready.1 hr).1
        rw [heq] at h1
        rcases Nat.lt_or_ge i listed.size with h' | h'
        · simp [h'] at h0 h1; rw [h0] at h1; cases h1
        · simp [Array.getElem?_eq_none h'] at h1
      have h2 := wpOp_putIf hoj (hfree j oj hoj hji hjun hnot) (fun cs b => hsel i oi cs b hi) (fun cs b => hsel j oj cs b hoj) (fun _ _ _ h => h) hy h1
      have hfree' : ∀ k ok, ops[k]? = some ok → k ≠ i → (listed.setIfInBounds j true).getD k true = false →
          (∀ e ∈ ok.after, Region.binds md e = true → e.on ≠ i) → oi.apart ops ok = true := fun k ok hk hki hun hno => by
        refine hfree k ok hk hki ?_ hno
        by_cases hjk : j = k
        · subst hjk; exact hjun
        · rw [getD_set_ne true hjk] at hun; exact hun
      refine wpOp_mono (fun a' w' h3 => ⟨h3.2.1, ih (listed.setIfInBounds j true) a' w' (inv.set hj hjn) hfree' (ready_mono hr (Ne.symm hji)) h3.1 (h3.2.1 hjn) ?_⟩) h2
      rw [Array.setIfInBounds_comm _ _ hji]
      exact h3.2.2

/-- Is the order pl (true: taken first) one that may be walked? Behind it the tail from n on, in its own order. -/
def mixB (md : Region.Mode) (ops : Array Oper) (n : Nat) : List (Bool × Nat) → Array Bool → Bool
  | [], listed => Region.seqB md ops (ops.size - n) n listed
  | (true, i) :: l, listed => (Region.ready md ops listed).contains i && Region.free md ops listed i && decide (i < n) && mixB md ops n l (listed.setIfInBounds i true)
  | (false, i) :: l, listed => decide (Region.ready md ops listed = [i]) && decide (i < n) && mixB md ops n l (listed.setIfInBounds i true)
/-- The operations of an order. -/
def pickOps (l : List Oper) (pl : List (Bool × Nat)) : List (Bool × Oper) := pl.map fun x => (x.1, l.getD x.2 default)
/-- The walk of an order. -/
def wpMix (P : Program) (ops : Array Oper) (Q : Exit → Act → World → Prop) (S : World → Prop) (T : Act → World → Prop) : List (Bool × Oper) → Act → World → Prop
  | [], a, w => T a w
  | (true, o) :: l, a, w => ∃ v, YieldsIf P ops S o v a ∧ wpMix P ops Q S T l (a.put o.dst v) w
  | (false, o) :: l, a, w => if Region.wanted o (yielded ops a.tmps) then o.wp P a w (fun a' w' => S w' ∧ wpMix P ops Q S T l a' w') (Calm Q) ∨ (o.asks P a w ∧ LetsOut Q) else wpMix P ops Q S T l (a.put o.dst undef) w
theorem wpAnyT_of_seq : ∀ (l : List Oper) (k : Nat) (listed : Array Bool) (a : Act) (w : World), n ≤ k → (∀ j, l[j]? = ops[k + j]?) →
    Region.seqB md ops l.length k listed = true → wpList P ops Q l a w → wpAnyT P md ops Q S n l.length listed a w
  | [], _, _, _, _, _, _, hB, h => ⟨by simpa [Region.seqB] using hB, h⟩
  | o :: l, k, listed, a, w, hk, hl, hB, h => by
    have h0 : ops[k]? = some o := by simpa using (hl 0).symm
    simp only [List.length_cons, Region.seqB, Bool.and_eq_true, decide_eq_true_eq] at hB
    refine ⟨fun h1 => (by rw [hB.1] at h1; cases h1), fun i hi => ?_⟩
    rw [hB.1] at hi
    have hik : i = k := by simpa using hi
    subst hik
    have hw : wpOp P ops Q i (wpList P ops Q l) a w := by unfold wpOp; simp only [h0]; exact h
    rw [if_neg (by omega)]
    exact wpOp_mono (fun a' w' h' => ⟨fun hh => absurd hh (by omega), wpAnyT_of_seq l (i + 1) _ a' w' (by omega) (fun j => by have := hl (j + 1); simpa [Nat.add_assoc, Nat.add_comm 1 j] using this) hB.2 h'⟩) hw
theorem wpAnyT_of_mix {l : List Oper} (ht : tailB md l.toArray n = true) (hsel : Region.noSelect l.toArray = true):
    ∀ (pl : List (Bool × Nat)) (listed : Array Bool) (a : Act) (w : World), HeadInv md l.toArray n listed → mixB md l.toArray n pl listed = true → S w →
      wpMix P l.toArray Q S (wpList P l.toArray Q (l.drop n)) (pickOps l pl) a w → wpAnyT P md l.toArray Q S n (pl.length + (l.drop n).length) listed a w
  | [], listed, a, w, inv, hB, hS, h => by
    simp only [List.length_nil, Nat.zero_add]
    exact wpAnyT_of_seq (l.drop n) n listed a w (Nat.le_refl _) (fun j => by simp [List.getElem?_drop]) (by simpa [mixB] using hB) h
  | (true, i) :: pl, listed, a, w, inv, hB, hS, h => by
    simp only [mixB, Bool.and_eq_true, decide_eq_true_eq] at hB
    obtain ⟨⟨⟨hr, hf⟩, hin⟩, hB'⟩ := hB
    have hr' : i ∈ Region.ready md l.toArray listed := by simpa using hr
    obtain ⟨_, oi, hoi, _⟩ := mem_ready.1 hr'
    have hd : l.getD i default = oi := by
      simp only [List.getElem?_toArray] at hoi
      simp [List.getD, hoi]
    simp only [pickOps, List.map_cons] at h
    rw [hd] at h
    obtain ⟨v, hy, h⟩ := h
    rw [List.length_cons, show pl.length + 1 + (l.drop n).length = pl.length + (l.drop n).length + 1 by omega]
    exact wpAnyT_first ht hoi (Region.noSelect_spec hsel) hin _ listed a w inv (Region.free_spec hoi hf) hr' hy hS
      (wpAnyT_of_mix ht hsel pl _ _ w (inv.set hr' hin) hB' hS h)
  | (false, i) :: pl, listed, a, w, inv, hB, hS, h => by
    simp only [mixB, Bool.and_eq_true, decide_eq_true_eq] at hB
    obtain ⟨⟨hr, hin⟩, hB'⟩ := hB
    have hr' : i ∈ Region.ready md l.toArray listed := by rw [hr]; simp
    obtain ⟨_, oi, hoi, _⟩ := mem_ready.1 hr'
    have hd : l.getD i default = oi := by
      simp only [List.getElem?_toArray] at hoi
      simp [List.getD, hoi]
    simp only [pickOps, List.map_cons] at h
    rw [hd] at h
    rw [List.length_cons, show pl.length + 1 + (l.drop n).length = pl.length + (l.drop n).length + 1 by omega]
    refine ⟨fun h1 => (by rw [hr] at h1; cases h1), fun j hj => ?_⟩
    rw [hr] at hj
    have hji : j = i := by simpa using hj
    subst hji
    have go : ∀ a' w', S w' ∧ wpMix P l.toArray Q S (wpList P l.toArray Q (l.drop n)) (pickOps l pl) a' w' → (j < n → S w') ∧ wpAnyT P md l.toArray Q S n (pl.length + (l.drop n).length) (listed.setIfInBounds j true) a' w' :=
      fun a' w' h' => ⟨fun _ => h'.1, wpAnyT_of_mix ht hsel pl _ a' w' (inv.set hr' hin) hB' h'.1 h'.2⟩
    rw [if_pos hin]
    refine wpOp_mono go ?_
    unfold wpOp
    simp only [hoi]
    simp only [wpMix] at h
    split
    · rename_i hw; rw [if_pos hw] at h; exact h
    · rename_i hw; rw [if_neg hw] at h; exact ⟨hS, h⟩
/-- **THE LAW.** -/
theorem wp_region_mix {id : Nat} {a : Act} {w : World} {l : List Oper} (S : World → Prop) (n : Nat) (pl : List (Bool × Nat)) (hm : P.follows .mixedOrders = true)
    (hB : (tailB .any l.toArray n && (Region.noSelect l.toArray && (decide (pl.length + (l.drop n).length = l.length) && mixB .any l.toArray n pl (Array.replicate l.length false)))) = true)
    (hS : S w.drew)
    (h : wpMix P l.toArray Q S (wpList P l.toArray Q (l.drop n)) (pickOps l pl) a w.drew) : (Code.region id l.toArray true).wp P Q a w := by
  simp only [Bool.and_eq_true, decide_eq_true_eq] at hB
  obtain ⟨ht, hsel, hlen, hmix⟩ := hB
  have inv0 : HeadInv .any l.toArray n (Array.replicate l.length false) :=
    ⟨by simp, fun j oj _ hl => (by rw [getD_replicate_false] at hl; cases hl), fun t _ ht => getD_in (by simpa using ht) (getD_replicate_false _ _)⟩
  refine wp_region_any hm (wpAny_of_T (S := S) (n := n) _ _ _ _ ?_)
  have := wpAnyT_of_mix (Q := Q) (S := S) (P := P) ht hsel pl _ a w.drew inv0 hmix hS h
  rw [hlen] at this
  simpa using this
/-- The same where all that is ahead of the tail only reads: no condition on the world. -/
theorem wp_region_mixq {id : Nat} {a : Act} {w : World} {l : List Oper} (n : Nat) (pl : List (Bool × Nat)) (hm : P.follows .mixedOrders = true)
    (hB : (tailB .any l.toArray n && (Region.noSelect l.toArray && (decide (pl.length + (l.drop n).length = l.length) && mixB .any l.toArray n pl (Array.replicate l.length false)))) = true)
    (h : wpMix P l.toArray Q (· = w.drew) (wpList P l.toArray Q (l.drop n)) (pickOps l pl) a w.drew) : (Code.region id l.toArray true).wp P Q a w :=
  wp_region_mix (· = w.drew) n pl hm hB rfl h

/-! ### The steps -/
section
variable {T : Act → World → Prop} {l : List (Bool × Oper)} {o : Oper} {a : Act} {w : World}
theorem wpMix_take {v : Value} (hw : Region.wanted o (yielded ops a.tmps) = true) (h : ∀ W, S W → (execOp a.eval o).run P W = .ok (.value v) W)
    (hr : wpMix P ops Q S T l (a.put o.dst v) w) : wpMix P ops Q S T ((true, o) :: l) a w := ⟨v, .inl ⟨hw, h⟩, hr⟩
theorem wpMix_leave (hw : Region.wanted o (yielded ops a.tmps) = false) (hr : wpMix P ops Q S T l (a.put o.dst undef) w) : wpMix P ops Q S T ((true, o) :: l) a w := ⟨undef, .inr ⟨hw, rfl⟩, hr⟩
theorem wpMix_skip (hw : Region.wanted o (yielded ops a.tmps) = false) (hr : wpMix P ops Q S T l (a.put o.dst undef) w) : wpMix P ops Q S T ((false, o) :: l) a w := by
  unfold wpMix; rw [if_neg (by rw [hw]; simp)]; exact hr
/-- What is asked behind an operation that is walked. -/
def MixQ (P : Program) (ops : Array Oper) (Q : Exit → Act → World → Prop) (S : World → Prop) (T : Act → World → Prop) (l : List (Bool × Oper)) : Exit → Act → World → Prop
  | .normal, a, w => S w ∧ wpMix P ops Q S T l a w
  | .panic _, _, _ => False
  | e, a, w => Q e a w
/-- An operation is walked as any other one; then S is shown anew. -/
theorem wpMix_walk (h : wpList P ops (MixQ P ops Q S T l) [o] a w) : wpMix P ops Q S T ((false, o) :: l) a w := by
  unfold wpMix
  unfold wpList at h
  split
  · rename_i hw
    rw [if_pos hw] at h
    rcases h with h | ⟨h1, a0, w0, h2⟩
    · exact .inl (Oper.wp_congr (fun _ _ _ h => h) (fun _ _ h => h) h)
    · exact .inr ⟨h1, a0, w0, h2⟩
  · rename_i hw
    rw [if_neg hw] at h
    exact h.2
theorem MixQ.mk (hS : S w) (h : wpMix P ops Q S T l a w) : MixQ P ops Q S T l .normal a w := ⟨hS, h⟩
theorem wpMix_nil (h : T a w) : wpMix P ops Q S T [] a w := h
end
end
end Go.Proofs.YtnglhfeialomgaaGreatDoor
/- Trees of directories: find. -/
namespace Go.Proofs.YtnglhfeialomgaaGreatDoor
open Go.RowKit

theorem zero_nodeP (w : World) : (zeroValue 53).run Tryz.prog w = .ok (.pointer none) w := by kernel_rfl
theorem mapNil (w : World) (p : Option Nat) : (binOp .eql 54 (.map p) (.map none)).run Tryz.prog w = .ok (.bool p.isNone) w := run_eql_map_nil w _ _ _ p Tryz.underlying54
theorem strs_cell {w : World} {v : Value} {g : Nat} {l : List (List UInt8)} (h : SlR strE w v g l) : ∃ (A : Option Addr) (o c : Nat), v = .slice A l.length c ∧ l.length ≤ 9223372036854775807 ∧ l.length ≤ c ∧ (0 < l.length → A = some ⟨g, o, none⟩) ∧ ∀ i (h : i < l.length), w.cell? ⟨g, o + i, none⟩ = some (.string (Pa.mk l[i])) := by
  rcases h with ⟨rfl, A, c, rfl⟩ | ⟨o, c, rfl, h1, h2, h3⟩
  · exact ⟨A, 0, c, rfl, by simp, by simp, by simp, fun i hi => by simp at hi⟩
  · refine ⟨_, o, c, rfl, by unfold maxLen at h2; omega, h1, fun _ => rfl, fun i hi => ?_⟩
    have := h3 i hi 0 (by decide)
    rw [show o + i * strE.k + 0 = o + i from by show o + i * 1 + 0 = o + i; omega] at this
    rw [this]
    rfl
theorem drop_cons {α : Type} {l : List α} {i : Nat} (h : i < l.length) : l.drop i = l[i] :: l.drop (i + 1) := List.drop_eq_getElem_cons h
set_option maxRecDepth 100000 in
set_option maxHeartbeats 2000000 in
theorem tr_find (w : World) (tb : Nat) (g : Tr.G) (dom : Nat → Prop) (K : Nat) (v : Value) (gs : Nat) (l : List Tr.Nme) (hS : TrS w tb g dom K) (hl : SlR strE w v gs l) (hnm : ∀ p ∈ l, Pa.IsName p) :
    Calls Tryz.prog 50 #[.pointer (some ⟨tb, 0, none⟩), v] w fun e w' => e = .returned (fndV (Tr.fnd g g.root l)) ∧ w' = w := by
  obtain ⟨A, o, c, rfl, hm, -, hA, hc⟩ := strs_cell hl
  have HS := Lib.hid hS
  have HA := Lib.hid hA
  have HC := Lib.hid hc
  have HN := Lib.hid hnm
  have b0 : w.cell? ⟨tb, 0, none⟩ = some (.pointer (some ⟨g.root, 0, none⟩)) := by rw [cell_of_row _ _ _ _ _ _ hS.top]; rfl
  clear hS hA hc hnm hl
  go_enter Tryz.func50, Tryz.ntmps50
  go_wp2
  go_loop [6, 17] (fun nv iv => ∃ i n : Nat, i ≤ l.length ∧ iv = .int .i64 i ∧ nv = .pointer (some ⟨n, 0, none⟩) ∧ Hid (dom n) ∧ Hid (Tr.fnd g g.root l = Tr.fnd g n (l.drop i))) (fun _ iv => l.length - (intOf iv).toNat)
  case atStart => exact ⟨0, g.root, Nat.zero_le _, rfl, rfl, HS.out.rootD, rfl⟩
  case round =>
    obtain ⟨i, n, hi, rfl, rfl, hD, hF⟩ := hrel
    by_cases hlt : i < l.length
    · obtain rfl := HA.out (by omega)
      have qi := HC.out i hlt
      have i0 : (0 : Int) ≤ i := by omega
      have iI : (i : Int) < l.length := by omega
      have hx := HN.out _ (List.getElem_mem hlt)
      have hf := hF.out
      rw [drop_cons hlt] at hf
      have hnode := HS.out.node n hD.out
      have HX := Lib.hid hx.2.1
      generalize l[i] = x at *
      cases he : g.ent n with
      | none =>
        rw [Tr.fnd_file he] at hf
        have h0 := hnode.file he
        have n0 : w.cell? ⟨n, 0, none⟩ = some (.map none) := by rw [cell_of_row _ _ _ _ _ _ h0]; rfl
        have q0 := mapNil w none
        have HF := Lib.hid hf
        clear hf hnode h0 hx he
        go_wp2
        go_ret2
        exact ⟨by rw [HF.out]; rfl, rfl⟩
      | some m =>
        have HENT := Lib.hid he
        obtain ⟨h0, hmap⟩ := hnode.dir he
        have n0 : w.cell? ⟨n, 0, none⟩ = some (.map (some (g.mb n))) := by rw [cell_of_row _ _ _ _ _ _ h0]; rfl
        have q0 := mapNil w (some (g.mb n))
        have HM := Lib.hid hmap
        have hcl := fun c (hc : m x = some c) => HS.out.closed n x c hD.out (by rw [Tr.kid_of he]; exact hc)
        have HCL := Lib.hid hcl
        clear hnode h0 hmap hcl hx he
        cases hmx : m x with
        | none =>
          rw [Tr.fnd_miss HENT.out hmx] at hf
          have HF := Lib.hid hf
          clear hf
          go_wp2_with (at_lookup; refine wpList_slook_ok rfl _ _ rfl HM.out Tryz.underlying9 Tryz.underlying54 (zero_nodeP _) rfl _ rfl (by unfold maxLen; have := HX.out; omega) ?_; rw [hmx]; unfold ptrO)
          go_ret2
          exact ⟨by rw [HF.out]; rfl, rfl⟩
        | some c2 =>
          rw [Tr.fnd_hit HENT.out hmx] at hf
          have HF := Lib.hid hf
          have HD2 := Lib.hid (HCL.out c2 hmx)
          clear hf
          go_wp2_with (at_lookup; refine wpList_slook_ok rfl _ _ rfl HM.out Tryz.underlying9 Tryz.underlying54 (zero_nodeP _) rfl _ rfl (by unfold maxLen; have := HX.out; omega) ?_; rw [hmx]; unfold ptrO)
          go_round
          case rel => exact ⟨i + 1, c2, by omega, by go_num, rfl, HD2, HF⟩
          case measure => (simp [intOf]; try omega)
    · obtain rfl : i = l.length := by omega
      have iI : ¬ ((l.length : Nat) : Int) < l.length := by omega
      have hf := hF.out
      rw [List.drop_length] at hf
      have HF := Lib.hid hf
      clear hf hlt
      go_wp2
      go_ret2
      exact ⟨by rw [HF.out]; rfl, rfl⟩
end Go.Proofs.YtnglhfeialomgaaGreatDoor

/- Trees of directories: spot, at. -/
namespace Go.Proofs.YtnglhfeialomgaaGreatDoor
open Go.RowKit

/-- What spot hands back. -/
def SpA (g : Tr.G) (s : List UInt8) (w : World) (e : Ending) (w' : World) : Prop := Fr [] w w' ∧ match Tr.spot g s with
  | .at_ d x => e = .returned (.tuple #[.pointer (some ⟨d, 0, none⟩), .string (Pa.mk x), .nilIface])
  | .err c => ∃ o t, c ≠ 0 ∧ e = .returned (.tuple #[.pointer o, .string t, errV c])
theorem SpA.err {g : Tr.G} {s : List UInt8} {w w' : World} {o : Option Addr} {t : ByteArray} {c : Int} (h : Tr.spot g s = .err c) (h0 : c ≠ 0) (hf : Fr [] w w') : SpA g s w (.returned (.tuple #[.pointer o, .string t, errV c])) w' := by
  refine ⟨hf, ?_⟩
  rw [h]
  exact ⟨o, t, h0, rfl⟩
theorem SpA.at_ {g : Tr.G} {s : List UInt8} {w w' : World} {d : Nat} {x : Tr.Nme} (h : Tr.spot g s = .at_ d x) (hf : Fr [] w w') : SpA g s w (.returned (.tuple #[.pointer (some ⟨d, 0, none⟩), .string (Pa.mk x), .nilIface])) w' := by
  refine ⟨hf, ?_⟩
  rw [h]
theorem slR_init {w : World} {A : Option Addr} {n c g : Nat} {P : List (List UInt8)} {x : List UInt8} (h : SlR strE w (.slice A n c) g (P ++ [x])) : SlR strE w (.slice A P.length c) g P := by
  rcases h with ⟨h, -⟩ | ⟨o, c', e, h1, h2, h3⟩
  · simp at h
  · injection e with e1 e2 e3
    subst e1 e3
    rw [List.length_append, List.length_singleton] at h1
    refine .inr ⟨o, c, rfl, by omega, h2, fun i hi r hr => ?_⟩
    have := h3 i (by rw [List.length_append]; omega) r hr
    rw [this, List.getElem_append_left hi]
theorem strs_last {w : World} {v : Value} {g : Nat} {P : List (List UInt8)} {x : List UInt8} (h : SlR strE w v g (P ++ [x])) : ∃ o c, v = .slice (some ⟨g, o, none⟩) (P.length + 1) c ∧ P.length + 1 ≤ c ∧ w.drew.cell? ⟨g, o + P.length, none⟩ = some (.string (Pa.mk x)) ∧ SlR strE w (.slice (some ⟨g, o, none⟩) P.length c) g P := by
  obtain ⟨A, o, c, rfl, -, h2, h3, h4⟩ := strs_cell h
  obtain rfl := h3 (by simp)
  have h5 := slR_init h
  have e : (P ++ [x]).length = P.length + 1 := by simp
  refine ⟨o, c, by rw [e], by omega, ?_, h5⟩
  have h1 := h4 P.length (by omega)
  rw [List.getElem_append_right (Nat.le_refl _)] at h1
  simpa using h1
theorem Tr.fnd_err_ne {g : Tr.G} : ∀ (p : List Tr.Nme) (n : Nat) (c : Int), Tr.fnd g n p = .err c → c ≠ 0
  | [], _, _, h => by cases h
  | x :: r, n, c, h => by
    rw [Tr.fnd_cons] at h
    cases hm : g.ent n with
    | none => rw [hm] at h; injection h with h; omega
    | some m =>
      rw [hm] at h
      have h : (match m x with | none => Tr.Rs.err 5 | some c => Tr.fnd g c r) = .err c := h
      cases hx : m x with
      | none => rw [hx] at h; injection h with h; omega
      | some d => rw [hx] at h; exact Tr.fnd_err_ne r d c h
set_option maxRecDepth 100000 in
set_option maxHeartbeats 4000000 in
theorem tr_spot (w : World) (tb : Nat) (g : Tr.G) (dom : Nat → Prop) (K : Nat) (s : ByteArray) (hS : TrS w tb g dom K) :
    Calls Tryz.prog 42 #[.pointer (some ⟨tb, 0, none⟩), .string s] w (SpA g s.data.toList w) := by
  have HS := Lib.hid hS
  have HPA := Lib.hid (pa_Parts s w)
  obtain ⟨st, hst⟩ : ∃ x, s.data.toList = x := ⟨_, rfl⟩
  rw [hst] at HPA ⊢
  clear hS hst
  have HSP : Hid (Tr.spot g st = if (Pa.parts st).2 = 0 then Tr.spotL g (Pa.parts st).1 else .err (Pa.parts st).2) := rfl
  have HNM : Hid ((Pa.parts st).2 = 0 → ∀ p ∈ (Pa.parts st).1, Pa.IsName p) := fun h0 => Pa.parts_names (s := st) (by rw [← h0])
  have HL8 : Hid ((Pa.parts st).2 = 0 → (Pa.parts st).1.length ≤ 8) := fun h0 => (Pa.parts_ok (s := st) (by rw [← h0])).2.2.2
  unfold PaP at HPA
  generalize (Pa.parts st).1 = l at *
  generalize (Pa.parts st).2 = c at *
  by_cases hc : c = 0
  · subst hc
    have hsp := HSP.out
    rw [if_pos rfl] at hsp
    have hnm := HNM.out rfl
    clear HSP HNM
    by_cases hl : l = []
    · subst hl
      have HR : Hid (Tr.spot g st = .err 7) := hsp.trans (if_pos rfl)
      clear hsp hnm
      go_enter Tryz.func42, Tryz.ntmps42
      go_wp2_with (go_at_call 49; (with_reducible refine useC HPA.out ?_); rintro e w1 ⟨v, gv, rfl, hv, hf⟩; obtain ⟨A, o, c, rfl, -⟩ := strs_cell hv; have HF := Lib.hid hf; clear hv hf; rw [show errV 0 = .nilIface from rfl])
      exact bodyPost_ret (v := .tuple #[.pointer none, .string { data := #[] }, .iface 66 (.int .i64 7)]) (by simp [results, Tryz.results42, go_sem]) rfl (SpA.err HR.out (by decide) HF.out)
    · obtain ⟨P, x, rfl⟩ : ∃ P x, l = P ++ [x] := ⟨l.dropLast, l.getLast hl, (List.dropLast_concat_getLast hl).symm⟩
      have hsp2 : Tr.spot g st = match Tr.fnd g g.root P with
        | .err e => .err e
        | .ok d => if (g.ent d).isSome = true then .at_ d x else .err 3 := by
        rw [hsp]
        unfold Tr.spotL
        rw [if_neg hl, List.dropLast_concat, List.getLastD_concat]
        cases Tr.fnd g g.root P <;> rfl
      have HR := Lib.hid hsp2
      have HN := Lib.hid (fun p (hp : p ∈ P) => hnm p (List.mem_append.2 (.inl hp)))
      clear hsp hsp2 hnm hl
      have h8 := HL8.out rfl
      rw [List.length_append, List.length_singleton] at h8
      have n1 : IntKind.i64.wrap (P.length : Int) = (P.length : Int) := by rw [IntKind.wrap_i64]; omega
      have HFE := Lib.hid (fun c (h : Tr.fnd g g.root P = .err c) => Tr.fnd_err_ne P g.root c h)
      have HFD := Lib.hid (fun d (h : Tr.fnd g g.root P = .ok d) => HS.out.node d (HS.out.found P g.root d HS.out.rootD h))
      clear HL8
      go_enter Tryz.func42, Tryz.ntmps42
      go_upto_region 6 with (go_at_call 49; (with_reducible refine useC HPA.out ?_); rintro e w1 ⟨v, gv, rfl, hv, hf⟩; obtain ⟨o, cc, rfl, hcap, hq, hi⟩ := strs_last hv; have HF := Lib.hid hf; have HI := Lib.hid (tr_find w1 tb g dom K _ gv P (HS.out.step hf) hi HN.out); clear hv hf hi; rw [show errV 0 = .nilIface from rfl])
      have z0 : (0 : Int) ≤ (P.length : Int) := by omega
      have z1 : (P.length : Int) ≤ (cc : Int) := by omega
      have z2 : P.length ≤ cc := by omega
      have z3 : ¬ cc = P.length := by omega
      have z4 : ¬ P.length = cc := by omega
      have z5 : (P.length : Int) < (P.length : Int) + 1 := by omega
      cases hfn : Tr.fnd g g.root P with
      | err c =>
        rw [hfn] at HI HR
        have hne := HFE.out c hfn
        have hev := errV_no hne
        have HNE := Lib.hid hne
        have HHR : Hid (Tr.spot g st = .err c) := HR.out
        unfold fndV at HI
        clear HFE HFD hfn hne HR
        go_wp2_with (go_at_call 50; (with_reducible refine useC HI.out ?_); rintro e w1 ⟨rfl, rfl⟩; rw [hev]; clear hev)
        go_wp2_with fail
        (refine wp_region_mix (· = w1.drew) 10 [(true, 0), (true, 1), (true, 2), (true, 3), (true, 4), (true, 5), (true, 6), (true, 7), (false, 8), (false, 9)] (by kernel_rfl) (by kernel_rfl) (rfl) ?_; simp only [pickOps, List.map_cons, List.map_nil, List.getD_cons_zero, List.getD_cons_succ, List.drop_succ_cons, List.drop_zero])
        (iterate 8 (first | (refine wpMix_take (v := ?_) (by rfl) ?_ ?_; rotate_left; (focus (intro W hW; subst hW; go_simp; (try with_reducible rfl); done)); try simp only [Act.put, List.setIfInBounds_toArray, List.set_cons_zero, List.set_cons_succ]) | (refine wpMix_leave (by rfl) ?_; try simp only [Act.put, List.setIfInBounds_toArray, List.set_cons_zero, List.set_cons_succ])))
        refine wpMix_walk ?_
        go_wp2
        refine MixQ.mk (rfl) ?_
        refine wpMix_walk ?_
        go_wp2
        refine MixQ.mk (rfl) ?_
        refine wpMix_nil ?_
        go_wp2
        exact bodyPost_ret (v := .tuple #[.pointer none, .string (Pa.mk x), errV c]) (by rw [errV_no HNE.out]; simp [results, Tryz.results42, go_sem]) rfl (SpA.err HHR.out HNE.out HF.out.drew)
      | ok d =>
        rw [hfn] at HI HR
        have hnode := HFD.out d hfn
        unfold fndV at HI
        clear HFE HFD hfn
        cases he : g.ent d with
        | none =>
          have HHR : Hid (Tr.spot g st = .err 3) := by
            have h1 : Tr.spot g st = if (g.ent d).isSome = true then .at_ d x else .err 3 := HR.out
            rw [he] at h1
            exact h1
          have h0 := HF.out.get (hnode.file he) (by simp)
          have n0 : w1.cell? ⟨d, 0, none⟩ = some (.map none) := by rw [cell_of_row _ _ _ _ _ _ h0]; rfl
          have q0 := mapNil w1 none
          clear hnode h0 he HR
          go_wp2_with (go_at_call 50; (with_reducible refine useC HI.out ?_); rintro e w1 ⟨rfl, rfl⟩)
          go_wp2_with fail
          (refine wp_region_mix (· = w1.drew) 10 [(true, 0), (true, 1), (true, 2), (true, 3), (true, 4), (true, 5), (true, 6), (true, 7), (false, 8), (false, 9)] (by kernel_rfl) (by kernel_rfl) (rfl) ?_; simp only [pickOps, List.map_cons, List.map_nil, List.getD_cons_zero, List.getD_cons_succ, List.drop_succ_cons, List.drop_zero])
          (iterate 8 (first | (refine wpMix_take (v := ?_) (by rfl) ?_ ?_; rotate_left; (focus (intro W hW; subst hW; go_simp; (try with_reducible rfl); done)); try simp only [Act.put, List.setIfInBounds_toArray, List.set_cons_zero, List.set_cons_succ]) | (refine wpMix_leave (by rfl) ?_; try simp only [Act.put, List.setIfInBounds_toArray, List.set_cons_zero, List.set_cons_succ])))
          refine wpMix_walk ?_
          go_wp2
          refine MixQ.mk (rfl) ?_
          refine wpMix_walk ?_
          go_wp2
          refine MixQ.mk (rfl) ?_
          refine wpMix_nil ?_
          go_wp2
          exact bodyPost_ret (v := .tuple #[.pointer (some ⟨d, 0, none⟩), .string (Pa.mk x), .iface 66 (.int .i64 3)]) (by simp [results, Tryz.results42, go_sem]) rfl (SpA.err (c := 3) HHR.out (by decide) HF.out.drew)
        | some m =>
          have HHR : Hid (Tr.spot g st = .at_ d x) := by
            have h1 : Tr.spot g st = if (g.ent d).isSome = true then .at_ d x else .err 3 := HR.out
            rw [he] at h1
            exact h1
          have h0 := HF.out.get (hnode.dir he).1 (by simp)
          have n0 : w1.cell? ⟨d, 0, none⟩ = some (.map (some (g.mb d))) := by rw [cell_of_row _ _ _ _ _ _ h0]; rfl
          have q0 := mapNil w1 (some (g.mb d))
          clear hnode h0 he HR
          go_wp2_with (go_at_call 50; (with_reducible refine useC HI.out ?_); rintro e w1 ⟨rfl, rfl⟩)
          go_wp2_with fail
          (refine wp_region_mix (· = w1.drew) 10 [(true, 0), (true, 1), (true, 2), (true, 3), (true, 4), (true, 5), (true, 6), (true, 7), (false, 8), (false, 9)] (by kernel_rfl) (by kernel_rfl) (rfl) ?_; simp only [pickOps, List.map_cons, List.map_nil, List.getD_cons_zero, List.getD_cons_succ, List.drop_succ_cons, List.drop_zero])
          (iterate 8 (first | (refine wpMix_take (v := ?_) (by rfl) ?_ ?_; rotate_left; (focus (intro W hW; subst hW; go_simp; (try with_reducible rfl); done)); try simp only [Act.put, List.setIfInBounds_toArray, List.set_cons_zero, List.set_cons_succ]) | (refine wpMix_leave (by rfl) ?_; try simp only [Act.put, List.setIfInBounds_toArray, List.set_cons_zero, List.set_cons_succ])))
          refine wpMix_walk ?_
          go_wp2
          refine MixQ.mk (rfl) ?_
          refine wpMix_walk ?_
          go_wp2
          refine MixQ.mk (rfl) ?_
          refine wpMix_nil ?_
          go_wp2
          exact bodyPost_ret (v := .tuple #[.pointer (some ⟨d, 0, none⟩), .string (Pa.mk x), .nilIface]) (by simp [results, Tryz.results42, go_sem]) rfl (SpA.at_ HHR.out HF.out.drew)
  · have hsp := HSP.out
    rw [if_neg hc] at hsp
    have HR := Lib.hid hsp
    have hev := errV_no hc
    have HC := Lib.hid hc
    clear hsp HSP HNM hc
    go_enter Tryz.func42, Tryz.ntmps42
    go_wp2_with (go_at_call 49; (with_reducible refine useC HPA.out ?_); rintro e w1 ⟨v, gv, rfl, hv, hf⟩; obtain ⟨A, o, cc, rfl, -⟩ := strs_cell hv; have HF := Lib.hid hf; clear hv hf; rw [hev]; clear hev)
    refine bodyPost_ret (v := .tuple #[.pointer none, .string { data := #[] }, errV c]) (by rw [errV_no HC.out]; simp [results, Tryz.results42, go_sem]) rfl (SpA.err HR.out HC.out HF.out)
end Go.Proofs.YtnglhfeialomgaaGreatDoor
