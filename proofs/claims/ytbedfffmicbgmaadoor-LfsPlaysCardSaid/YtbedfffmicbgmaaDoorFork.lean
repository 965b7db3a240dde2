/- As XMix, for a region where two operations that change the world may come in either order: the plan is a tree. No program in sight. -/
import Derived.Test.YtbedfffmicbgmaaDoorMix
namespace Go.Proofs.YtbedfffmicbgmaaDoor
open Go
/-- An order, by numbers: taken first, walked, or one of two walked. -/
inductive Plan where
  | stop
  | take (i : Nat) (p : Plan)
  | walk (i : Nat) (p : Plan)
  | both (i : Nat) (p : Plan) (j : Nat) (q : Plan)
inductive PlanO where
  | stop
  | take (o : Oper) (p : PlanO)
  | walk (o : Oper) (p : PlanO)
  | both (o : Oper) (p : PlanO) (o' : Oper) (q : PlanO)
def Plan.len : Plan → Nat
  | .stop => 0
  | .take _ p => p.len + 1
  | .walk _ p => p.len + 1
  | .both _ p _ _ => p.len + 1
def pickPlan (l : List Oper) : Plan → PlanO
  | .stop => .stop
  | .take i p => .take (l.getD i default) (pickPlan l p)
  | .walk i p => .walk (l.getD i default) (pickPlan l p)
  | .both i p j q => .both (l.getD i default) (pickPlan l p) (l.getD j default) (pickPlan l q)
def planB (md : Region.Mode) (ops : Array Oper) (n : Nat) : Plan → Array Bool → Bool
  | .stop, listed => Region.seqB md ops (ops.size - n) n listed
  | .take i p, listed => (Region.ready md ops listed).contains i && Region.free md ops listed i && decide (i < n) && planB md ops n p (listed.setIfInBounds i true)
  | .walk i p, listed => decide (Region.ready md ops listed = [i]) && decide (i < n) && planB md ops n p (listed.setIfInBounds i true)
  | .both i p j q, listed => decide (Region.ready md ops listed = [i, j]) && decide (i < n) && decide (j < n) && decide (p.len = q.len) && planB md ops n p (listed.setIfInBounds i true) && planB md ops n q (listed.setIfInBounds j true)
section
variable {P : Program} {ops : Array Oper} {Q : Exit → Act → World → Prop} {md : Region.Mode} {S : World → Prop} {T : Act → World → Prop} {n : Nat}
/-- One operation, walked. -/
def wpStep (P : Program) (ops : Array Oper) (Q : Exit → Act → World → Prop) (S : World → Prop) (R : Act → World → Prop) (o : Oper) (a : Act) (w : World) : Prop :=
  if Region.wanted o (yielded ops a.tmps) then o.wp P a w (fun a' w' => S w' ∧ R a' w') (Calm Q) ∨ (o.asks P a w ∧ LetsOut Q) else R (a.put o.dst undef) w
def wpPlan (P : Program) (ops : Array Oper) (Q : Exit → Act → World → Prop) (S : World → Prop) (T : Act → World → Prop) : PlanO → Act → World → Prop
  | .stop, a, w => T a w
  | .take o p, a, w => ∃ v, YieldsIf P ops S o v a ∧ wpPlan P ops Q S T p (a.put o.dst v) w
  | .walk o p, a, w => wpStep P ops Q S (wpPlan P ops Q S T p) o a w
  | .both o p o' q, a, w => wpStep P ops Q S (wpPlan P ops Q S T p) o a w ∧ wpStep P ops Q S (wpPlan P ops Q S T q) o' a w
theorem getD_of {l : List Oper} {i : Nat} {oi : Oper} (h : l.toArray[i]? = some oi) : l.getD i default = oi := by
  simp only [List.getElem?_toArray] at h
  simp [List.getD, h]
theorem wpOp_of_step {l : List Oper} {i : Nat} {oi : Oper} {R : Act → World → Prop} {K' : Act → World → Prop} {a : Act} {w : World} (hoi : l.toArray[i]? = some oi) (hin : i < n) (hS : S w) (hK : ∀ a' w', S w' ∧ R a' w' → K' a' w') (h : wpStep P l.toArray Q S R oi a w) :
    wpOp P l.toArray (if i < n then Calm Q else Q) i K' a w := by
  rw [if_pos hin]
  refine wpOp_mono hK ?_
  unfold wpOp
  simp only [hoi]
  unfold wpStep at h
  split
  · rename_i hw; rw [if_pos hw] at h; exact h
  · rename_i hw; rw [if_neg hw] at h; exact ⟨hS, h⟩
theorem wpAnyT_of_plan {l : List Oper} (ht : tailB md l.toArray n = true) (hsel : Region.noSelect l.toArray = true) :
    ∀ (pl : Plan) (listed : Array Bool) (a : Act) (w : World), HeadInv md l.toArray n listed → planB md l.toArray n pl listed = true → S w →
      wpPlan P l.toArray Q S (wpList P l.toArray Q (l.drop n)) (pickPlan l pl) a w → wpAnyT P md l.toArray Q S n (pl.len + (l.drop n).length) listed a w
  | .stop, listed, a, w, inv, hB, hS, h => by
    simp only [Plan.len, Nat.zero_add]
    exact wpAnyT_of_seq (l.drop n) n listed a w (Nat.le_refl _) (fun j => by simp [List.getElem?_drop]) (by simpa [planB] using hB) h
  | .take i pl, listed, a, w, inv, hB, hS, h => by
    simp only [planB, Bool.and_eq_true, decide_eq_true_eq] at hB
    obtain ⟨⟨⟨hr, hf⟩, hin⟩, hB'⟩ := hB
    have hr' : i ∈ Region.ready md l.toArray listed := by simpa using hr
    obtain ⟨_, oi, hoi, _⟩ := mem_ready.1 hr'
    have h' : wpPlan P l.toArray Q S (wpList P l.toArray Q (l.drop n)) (.take (l.getD i default) (pickPlan l pl)) a w := h
    rw [getD_of hoi] at h'
    obtain ⟨v, hy, h'⟩ := h'
    rw [show (Plan.take i pl).len = pl.len + 1 from rfl, show pl.len + 1 + (l.drop n).length = pl.len + (l.drop n).length + 1 by omega]
    exact wpAnyT_first ht hoi (Region.noSelect_spec hsel) hin _ listed a w inv (Region.free_spec hoi hf) hr' hy hS
      (wpAnyT_of_plan ht hsel pl _ _ w (inv.set hr' hin) hB' hS h')
  | .walk i pl, listed, a, w, inv, hB, hS, h => by
    simp only [planB, Bool.and_eq_true, decide_eq_true_eq] at hB
    obtain ⟨⟨hr, hin⟩, hB'⟩ := hB
    have hr' : i ∈ Region.ready md l.toArray listed := by rw [hr]; simp
    obtain ⟨_, oi, hoi, _⟩ := mem_ready.1 hr'
    have h' : wpPlan P l.toArray Q S (wpList P l.toArray Q (l.drop n)) (.walk (l.getD i default) (pickPlan l pl)) a w := h
    rw [getD_of hoi] at h'
    rw [show (Plan.walk i pl).len = pl.len + 1 from rfl, show pl.len + 1 + (l.drop n).length = pl.len + (l.drop n).length + 1 by omega]
    refine ⟨fun h1 => (by rw [hr] at h1; cases h1), fun j hj => ?_⟩
    rw [hr] at hj
    have hji : j = i := by simpa using hj
    subst hji
    exact wpOp_of_step hoi hin hS (fun a' w' h' => ⟨fun _ => h'.1, wpAnyT_of_plan ht hsel pl _ a' w' (inv.set hr' hin) hB' h'.1 h'.2⟩) h'
  | .both i p k q, listed, a, w, inv, hB, hS, h => by
    simp only [planB, Bool.and_eq_true, decide_eq_true_eq] at hB
    obtain ⟨⟨⟨⟨⟨hr, hin⟩, hkn⟩, hlen⟩, hBp⟩, hBq⟩ := hB
    have hri : i ∈ Region.ready md l.toArray listed := by rw [hr]; simp
    have hrk : k ∈ Region.ready md l.toArray listed := by rw [hr]; simp
    obtain ⟨_, oi, hoi, _⟩ := mem_ready.1 hri
    obtain ⟨_, ok, hok, _⟩ := mem_ready.1 hrk
    have h' : wpPlan P l.toArray Q S (wpList P l.toArray Q (l.drop n)) (.both (l.getD i default) (pickPlan l p) (l.getD k default) (pickPlan l q)) a w := h
    rw [getD_of hoi, getD_of hok] at h'
    obtain ⟨h1, h2⟩ := h'
    rw [show (Plan.both i p k q).len = p.len + 1 from rfl, show p.len + 1 + (l.drop n).length = p.len + (l.drop n).length + 1 by omega]
    refine ⟨fun h1 => (by rw [hr] at h1; cases h1), fun j hj => ?_⟩
    rw [hr] at hj
    rcases (show j = i ∨ j = k by simpa using hj) with hji | hjk
    · subst hji
      exact wpOp_of_step hoi hin hS (fun a' w' h' => ⟨fun _ => h'.1, wpAnyT_of_plan ht hsel p _ a' w' (inv.set hri hin) hBp h'.1 h'.2⟩) h1
    · subst hjk
      exact wpOp_of_step hok hkn hS (fun a' w' h' => ⟨fun _ => h'.1, by rw [hlen]; exact wpAnyT_of_plan ht hsel q _ a' w' (inv.set hrk hkn) hBq h'.1 h'.2⟩) h2
/-- **THE LAW.** -/
theorem wp_region_fork {id : Nat} {a : Act} {w : World} {l : List Oper} (S : World → Prop) (n : Nat) (pl : Plan) (hm : P.follows .mixedOrders = true)
    (hB : (tailB .any l.toArray n && (Region.noSelect l.toArray && (decide (pl.len + (l.drop n).length = l.length) && planB .any l.toArray n pl (Array.replicate l.length false)))) = true)
    (hS : S w.drew)
    (h : wpPlan P l.toArray Q S (wpList P l.toArray Q (l.drop n)) (pickPlan l pl) a w.drew) : (Code.region id l.toArray true).wp P Q a w := by
  simp only [Bool.and_eq_true, decide_eq_true_eq] at hB
  obtain ⟨ht, hsel, hlen, hmix⟩ := hB
  have inv0 : HeadInv .any l.toArray n (Array.replicate l.length false) :=
    ⟨by simp, fun j oj _ hl => (by rw [getD_replicate_false] at hl; cases hl), fun t _ ht => getD_in (by simpa using ht) (getD_replicate_false _ _)⟩
  refine wp_region_any hm (wpAny_of_T (S := S) (n := n) _ _ _ _ ?_)
  have := wpAnyT_of_plan (Q := Q) (S := S) (P := P) ht hsel pl _ a w.drew inv0 hmix hS h
  rw [hlen] at this
  simpa using this
/-! ### The steps -/
section
variable {l : PlanO} {o o' : Oper} {p q : PlanO} {a : Act} {w : World}
theorem wpPlan_take {v : Value} (hw : Region.wanted o (yielded ops a.tmps) = true) (h : ∀ W, S W → (execOp a.eval o).run P W = .ok (.value v) W)
    (hr : wpPlan P ops Q S T l (a.put o.dst v) w) : wpPlan P ops Q S T (.take o l) a w := ⟨v, .inl ⟨hw, h⟩, hr⟩
theorem wpPlan_leave (hw : Region.wanted o (yielded ops a.tmps) = false) (hr : wpPlan P ops Q S T l (a.put o.dst undef) w) : wpPlan P ops Q S T (.take o l) a w := ⟨undef, .inr ⟨hw, rfl⟩, hr⟩
/-- What is asked behind an operation that is walked. -/
def ForkQ (P : Program) (ops : Array Oper) (Q : Exit → Act → World → Prop) (S : World → Prop) (T : Act → World → Prop) (l : PlanO) : Exit → Act → World → Prop
  | .normal, a, w => S w ∧ wpPlan P ops Q S T l a w
  | .panic _, _, _ => False
  | e, a, w => Q e a w
theorem wpStep_walk (h : wpList P ops (ForkQ P ops Q S T l) [o] a w) : wpStep P ops Q S (wpPlan P ops Q S T l) o a w := by
  unfold wpStep
  unfold wpList at h
  split
  · rename_i hw
    rw [if_pos hw] at h
    rcases h with h | ⟨h1, a0, w0, h2⟩
    · exact .inl (Oper.wp_congr (fun _ _ _ h => h) (fun _ _ h => h) h)
    · exact .inr ⟨h1, a0, w0, h2⟩
  · rename_i hw
    rw [if_neg hw] at h
    exact h.2
theorem wpPlan_walk (h : wpList P ops (ForkQ P ops Q S T l) [o] a w) : wpPlan P ops Q S T (.walk o l) a w := wpStep_walk h
theorem wpPlan_both (h1 : wpList P ops (ForkQ P ops Q S T p) [o] a w) (h2 : wpList P ops (ForkQ P ops Q S T q) [o'] a w) : wpPlan P ops Q S T (.both o p o' q) a w := ⟨wpStep_walk h1, wpStep_walk h2⟩
theorem ForkQ.mk (hS : S w) (h : wpPlan P ops Q S T l a w) : ForkQ P ops Q S T l .normal a w := ⟨hS, h⟩
theorem wpPlan_nil (h : T a w) : wpPlan P ops Q S T .stop a w := h
end
end
end Go.Proofs.YtbedfffmicbgmaaDoor
