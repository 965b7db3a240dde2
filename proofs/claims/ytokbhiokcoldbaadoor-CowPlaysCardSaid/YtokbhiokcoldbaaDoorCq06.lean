/- A law for a region that draws its order: a chain of operations, and beside it operations that float: each may be taken whenever what it waits for is there. A condition of one's own holds behind each of them. No program in sight. -/

import Derived.Test.YtokbhiokcoldbaaDoorCq05
namespace Go.Proofs.YtokbhiokcoldbaaDoor
open Go
section
variable {P : Program} {ops : Array Oper} {Q : Exit → Act → World → Prop} {md : Region.Mode} {S : World → Prop} {n : Nat}

/-- What an operation waits for. -/
def depsOf (md : Region.Mode) (ops : Array Oper) (i : Nat) : List Nat :=
  match ops[i]? with
  | some o => (o.after.toList.filter (fun e => Region.binds md e)).map (·.on)
  | none => []
theorem mem_deps {i d : Nat} {o : Oper} (ho : ops[i]? = some o) : d ∈ depsOf md ops i ↔ ∃ e ∈ o.after, Region.binds md e = true ∧ e.on = d := by
  unfold depsOf
  rw [ho]
  simp only [List.mem_map, List.mem_filter, Array.mem_toList_iff]
  constructor
  · rintro ⟨e, ⟨h1, h2⟩, h3⟩
    exact ⟨e, h1, h2, h3⟩
  · rintro ⟨e, h1, h2, h3⟩
    exact ⟨e, ⟨h1, h2⟩, h3⟩
/-- K behind an operation, but 'False' at a panic. -/
def FlQ (Q : Exit → Act → World → Prop) (K : Act → World → Prop) : Exit → Act → World → Prop
  | .normal, a, w => K a w
  | .panic _, _, _ => False
  | e, a, w => Q e a w
theorem FlQ.mk {K : Act → World → Prop} {a : Act} {w : World} (h : K a w) : FlQ Q K .normal a w := h
theorem wpOp_of_list {K : Act → World → Prop} {i : Nat} {o : Oper} {a : Act} {w : World} (ho : ops[i]? = some o) (h : wpList P ops (FlQ Q K) [o] a w) : wpOp P ops (Calm Q) i K a w := by
  unfold wpOp
  unfold wpList at h
  simp only [ho]
  split
  · rename_i hw
    rw [if_pos hw] at h
    rcases h with h | ⟨h1, a0, w0, h2⟩
    · exact .inl (Oper.wp_congr (fun _ _ _ h => h) (fun _ _ h => h) h)
    · exact .inr ⟨h1, a0, w0, h2⟩
  · rename_i hw
    rw [if_neg hw] at h
    exact h
/-- What is told of the operations that are done: all but those of the chain C and those that float (A); of the chain the first p. -/
structure FlSt (md : Region.Mode) (ops : Array Oper) (n : Nat) (C A : List Nat) (p : Nat) (listed : Array Bool) : Prop where
  head : HeadInv md ops n listed
  done : ∀ i, i < n → i ∉ C → i ∉ A → listed.getD i true = true
  chain : ∀ j (h : j < C.length), listed.getD C[j] true = decide (j < p)
def flB (md : Region.Mode) (ops : Array Oper) (n : Nat) (C A : List Nat) : Bool :=
  decide (n ≤ ops.size) && decide C.Nodup && C.all (fun i => decide (i < n)) && A.all (fun k => decide (k < n) && !C.contains k && (depsOf md ops k).all fun d => decide (d < n) && !C.contains d && !A.contains d) &&
  (List.range C.length).all (fun j => (depsOf md ops (C.getD j 0)).all (fun d => decide (d < n) && (!C.contains d || (C.take j).contains d)) && (j == 0 || (depsOf md ops (C.getD j 0)).contains (C.getD (j - 1) 0)))
structure FlOk (md : Region.Mode) (ops : Array Oper) (n : Nat) (C A : List Nat) : Prop where
  le : n ≤ ops.size
  nd : C.Nodup
  clt : ∀ i ∈ C, i < n
  alt : ∀ k ∈ A, k < n ∧ k ∉ C ∧ ∀ d ∈ depsOf md ops k, d < n ∧ d ∉ C ∧ d ∉ A
  cdep : ∀ j (h : j < C.length), ∀ d ∈ depsOf md ops C[j], d < n ∧ (d ∈ C → ∃ (j' : Nat) (h' : j' < C.length), j' < j ∧ C[j'] = d)
  cprev : ∀ j (h : j < C.length), 0 < j → C[j - 1]'(by omega) ∈ depsOf md ops C[j]
theorem getD_of_lt {C : List Nat} {j : Nat} (h : j < C.length) : C.getD j 0 = C[j] := by
  rw [List.getD_eq_getElem?_getD, List.getElem?_eq_getElem h]; rfl
theorem flB_ok {C A : List Nat} (h : flB md ops n C A = true) : FlOk md ops n C A := by
  unfold flB at h
  simp only [Bool.and_eq_true, decide_eq_true_eq, List.all_eq_true, Bool.not_eq_true', List.mem_range, Bool.or_eq_true, beq_iff_eq] at h
  obtain ⟨⟨⟨⟨h1, h2⟩, h3⟩, h4⟩, h5⟩ := h
  refine ⟨h1, h2, h3, fun k hk => ?_, fun j hj d hd => ?_, fun j hj h0 => ?_⟩
  · obtain ⟨⟨a, b⟩, c⟩ := h4 k hk
    exact ⟨a, fun hm => by simp [hm] at b, fun d hd => by
      obtain ⟨⟨a', b'⟩, c'⟩ := c d hd
      exact ⟨a', fun hm => by simp [hm] at b', fun hm => by simp [hm] at c'⟩⟩
  · obtain ⟨a, -⟩ := h5 j hj
    rw [getD_of_lt hj] at a
    obtain ⟨b, c⟩ := a d hd
    refine ⟨b, fun hm => ?_⟩
    rcases c with c | c
    · simp [hm] at c
    · have c : d ∈ C.take j := List.contains_iff_mem.1 c
      obtain ⟨j', hj', e⟩ := List.getElem_of_mem c
      rw [List.length_take] at hj'
      exact ⟨j', by omega, by omega, by rw [← e, List.getElem_take]⟩
  · obtain ⟨-, a⟩ := h5 j hj
    rcases a with a | a
    · omega
    · have a := List.contains_iff_mem.1 a
      rw [getD_of_lt hj, getD_of_lt (show j - 1 < C.length by omega)] at a
      exact a
theorem countP_one {f f' : Nat → Bool} {i : Nat} : ∀ {l : List Nat}, l.Nodup → i ∈ l → f i = true → f' i = false → (∀ j, j ≠ i → f' j = f j) → l.countP f' + 1 = l.countP f
  | [], _, h, _, _, _ => by cases h
  | a :: l, hn, hm, h1, h2, h3 => by
    obtain ⟨n1, n2⟩ := List.nodup_cons.1 hn
    by_cases e : a = i
    · subst e
      have : l.countP f' = l.countP f := List.countP_congr fun j hj => by rw [h3 j (fun e => n1 (e ▸ hj))]
      rw [List.countP_cons, List.countP_cons, this, h1, h2]
      simp
    · have hm' : i ∈ l := (List.mem_cons.1 hm).resolve_left (fun h => e h.symm)
      have ih := countP_one n2 hm' h1 h2 h3
      rw [List.countP_cons, List.countP_cons, h3 a e]
      omega
def leftN (n : Nat) (listed : Array Bool) : Nat := (List.range n).countP (fun i => !listed.getD i true)
theorem leftN_set {listed : Array Bool} {i : Nat} (hi : i < n) (hs : i < listed.size) (hu : listed.getD i true = false) : leftN n (listed.setIfInBounds i true) + 1 = leftN n listed := by
  refine countP_one List.nodup_range (List.mem_range.2 hi) (by rw [hu]; rfl) ?_ (fun j hj => ?_)
  · have : (listed.setIfInBounds i true).getD i true = true := by simp [hs]
    rw [this]; rfl
  · rw [getD_set_ne true (Ne.symm hj)]
theorem getD_conv {listed : Array Bool} {i : Nat} (hs : i < listed.size) (h : listed.getD i true = true) : listed.getD i false = true := by
  simp [hs] at h ⊢; exact h
/-- All ahead of n are done. -/
def fullTo (n m : Nat) : Array Bool := ((List.range m).map (fun i => decide (i < n))).toArray
theorem wpAnyT_float {l : List Oper} {C A : List Nat} (hB : flB md l.toArray n C A = true) (ht : tailB md l.toArray n = true) (hT : Region.seqB md l.toArray (l.drop n).length n (fullTo n l.length) = true) (J : Nat → Array Bool → Act → World → Prop)
    (hJS : ∀ p listed a w, J p listed a w → S w)
    (hC : ∀ p (hp : p < C.length) listed a w, (∀ d ∈ depsOf md l.toArray C[p], listed.getD d true = true) → J p listed a w → wpList P l.toArray (FlQ Q (J (p + 1) (listed.setIfInBounds C[p] true))) [l.getD C[p] default] a w)
    (hA : ∀ k ∈ A, ∀ p listed a w, listed.getD k true = false → k < listed.size → J p listed a w → wpList P l.toArray (FlQ Q (J p (listed.setIfInBounds k true))) [l.getD k default] a w)
    (hE : ∀ listed a w, J C.length listed a w → wpList P l.toArray Q (l.drop n) a w) :
    ∀ (m p : Nat) (listed : Array Bool) (a : Act) (w : World), FlSt md l.toArray n C A p listed → p ≤ C.length → J p listed a w → m = leftN n listed → wpAnyT P md l.toArray Q S n (m + (l.drop n).length) listed a w := by
  have hk := flB_ok hB
  have hsel : ∀ i, i < n → ∃ o, l.toArray[i]? = some o ∧ l.getD i default = o := fun i hi => by
    have hl : i < l.length := by have := hk.le; simp at this; omega
    exact ⟨l[i], by simp [hl], by rw [List.getD_eq_getElem?_getD, List.getElem?_eq_getElem hl]; rfl⟩
  intro m
  induction m with
  | zero =>
    intro p listed a w hst hp hJ hm
    have hall : ∀ i, i < n → listed.getD i true = true := fun i hi => by
      have h0 : (List.range n).countP (fun i => !listed.getD i true) = 0 := hm.symm
      have := List.countP_eq_zero.1 h0 i (List.mem_range.2 hi)
      simpa using this
    have hpC : p = C.length := by
      rcases Nat.lt_or_ge p C.length with h | h
      · have h1 := hst.chain p h
        rw [hall _ (hk.clt _ (List.getElem_mem h))] at h1
        simp at h1
      · omega
    subst hpC
    rw [Nat.zero_add]
    refine wpAnyT_of_seq (l.drop n) n listed a w (Nat.le_refl _) (fun j => by simp [List.getElem?_drop]) ?_ (hE listed a w hJ)
    have hL : listed = fullTo n l.length := by
      have hsz := hst.head.size
      simp at hsz
      refine Array.ext (by rw [hsz]; simp [fullTo]) fun i h1 h2 => ?_
      have h3 : (fullTo n l.length)[i] = decide (i < n) := by simp [fullTo]
      rw [h3]
      rcases Nat.lt_or_ge i n with h | h
      · have := hall i h
        rw [decide_eq_true h]
        simp [h1] at this
        exact this
      · have := hst.head.tail i h (by simp; omega)
        rw [decide_eq_false (by omega)]
        simp [h1] at this
        exact this
    rw [hL]
    exact hT
  | succ m ih =>
    intro p listed a w hst hp hJ hm
    have hsize := hst.head.size
    have hin : ∀ i, i < n → i < listed.size := fun i hi => by rw [hsize]; have := hk.le; omega
    -- something is ready
    have hsome : ∃ i, i ∈ Region.ready md l.toArray listed ∧ i < n := by
      by_cases hf : ∃ k ∈ A, listed.getD k true = false
      · obtain ⟨k, hkA, hku⟩ := hf
        obtain ⟨k1, k2, k3⟩ := hk.alt k hkA
        obtain ⟨o, ho, -⟩ := hsel k k1
        refine ⟨k, mem_ready.2 ⟨hku, o, ho, fun e he hb => ?_⟩, k1⟩
        obtain ⟨d1, d2, d3⟩ := k3 e.on ((mem_deps ho).2 ⟨e, he, hb, rfl⟩)
        exact getD_conv (hin _ d1) (hst.done _ d1 d2 d3)
      · have hf' : ∀ k ∈ A, listed.getD k true = true := fun k hkA => by
          cases h : listed.getD k true with
          | true => rfl
          | false => exact absurd ⟨k, hkA, h⟩ hf
        have hpl : p < C.length := by
          apply Classical.byContradiction
          intro hge
          have hz : (List.range n).countP (fun i => !listed.getD i true) = 0 := List.countP_eq_zero.2 fun i hi => by
            have hi := List.mem_range.1 hi
            by_cases hiC : i ∈ C
            · obtain ⟨j, hj, rfl⟩ := List.getElem_of_mem hiC
              rw [hst.chain j hj]
              simp; omega
            · by_cases hiA : i ∈ A
              · rw [hf' i hiA]; simp
              · rw [hst.done i hi hiC hiA]; simp
          have : leftN n listed = 0 := hz
          omega
        have hc := hk.clt _ (List.getElem_mem hpl)
        obtain ⟨o, ho, -⟩ := hsel _ hc
        refine ⟨C[p], mem_ready.2 ⟨by rw [hst.chain p hpl]; simp, o, ho, fun e he hb => ?_⟩, hc⟩
        obtain ⟨d1, d2⟩ := hk.cdep p hpl e.on ((mem_deps ho).2 ⟨e, he, hb, rfl⟩)
        refine getD_conv (hin _ d1) ?_
        by_cases hdC : e.on ∈ C
        · obtain ⟨j', h', hlt, e'⟩ := d2 hdC
          rw [← e', hst.chain j' h']
          simpa using hlt
        · by_cases hdA : e.on ∈ A
          · exact hf' _ hdA
          · exact hst.done _ d1 hdC hdA
    obtain ⟨i0, hi0, hi0n⟩ := hsome
    rw [show m + 1 + (l.drop n).length = m + (l.drop n).length + 1 by omega]
    refine ⟨fun h => (by rw [h] at hi0; cases hi0), fun i hi => ?_⟩
    have hir := ready_lt ht hst.head hi0 hi0n i hi
    rw [if_pos hir]
    obtain ⟨hun, o, ho, hdep⟩ := mem_ready.1 hi
    obtain ⟨o', ho', hgd⟩ := hsel i hir
    rw [ho] at ho'
    obtain rfl := Option.some.inj ho'
    have hcnt := leftN_set hir (hin i hir) hun
    have hhead := hst.head.set hi hir
    by_cases hiA : i ∈ A
    · have h1 := hA i hiA p listed a w hun (hin i hir) hJ
      rw [hgd] at h1
      refine wpOp_mono ?_ (wpOp_of_list ho h1)
      intro a' w' hJ'
      refine ⟨fun _ => hJS _ _ _ _ hJ', ih p _ a' w' ⟨hhead, fun j hj hjC hjA => ?_, fun j hj => ?_⟩ hp hJ' (by omega)⟩
      · by_cases e : i = j
        · subst e; exact absurd hiA hjA
        · rw [getD_set_ne true e]; exact hst.done j hj hjC hjA
      · rw [getD_set_ne true (fun (e : i = C[j]) => (hk.alt i hiA).2.1 (by rw [e]; exact List.getElem_mem hj))]; exact hst.chain j hj
    · have hiC : i ∈ C := by
        apply Classical.byContradiction
        intro hc
        rw [hst.done i hir hc hiA] at hun
        cases hun
      obtain ⟨j, hj, rfl⟩ := List.getElem_of_mem hiC
      have hjp : p ≤ j := by
        have := hst.chain j hj
        rw [hun] at this
        simpa using this.symm
      have hdl : ∀ d ∈ depsOf md l.toArray C[j], listed.getD d true = true := fun d hd => by
        obtain ⟨e, he, hb, rfl⟩ := (mem_deps ho).1 hd
        have h1 := hdep e he hb
        have h2 := (hk.cdep j hj _ hd).1
        have h3 := hin _ h2
        simp [h3] at h1 ⊢; exact h1
      have hjeq : j = p := by
        rcases Nat.lt_or_ge p j with h | h
        · have h1 := hk.cprev j hj (by omega)
          have h2 := hdl _ h1
          rw [hst.chain (j - 1) (by omega)] at h2
          have := of_decide_eq_true h2
          omega
        · omega
      subst hjeq
      have h1 := hC j hj listed a w hdl hJ
      rw [hgd] at h1
      refine wpOp_mono ?_ (wpOp_of_list ho h1)
      intro a' w' hJ'
      refine ⟨fun _ => hJS _ _ _ _ hJ', ih (j + 1) _ a' w' ⟨hhead, fun i hi hiC' hiA' => ?_, fun j' hj' => ?_⟩ (by omega) hJ' (by omega)⟩
      · by_cases e : C[j] = i
        · subst e; exact absurd hiC hiC'
        · rw [getD_set_ne true e]; exact hst.done i hi hiC' hiA'
      · by_cases e : j = j'
        · subst e
          have hs := hin _ hir
          simp [hs]
        · rw [getD_set_ne true (fun h => e ((List.getElem_inj hk.nd).1 h)), hst.chain j' hj']
          rw [decide_eq_decide]
          omega
/-! ### What only reads is taken first -/
def takeB (md : Region.Mode) (ops : Array Oper) (n : Nat) : List Nat → Array Bool → Bool
  | [], _ => true
  | i :: l, listed => (Region.ready md ops listed).contains i && Region.free md ops listed i && decide (i < n) && takeB md ops n l (listed.setIfInBounds i true)
theorem wpAnyT_takes {l : List Oper} {T : Act → World → Prop} (ht : tailB md l.toArray n = true) (hsel : Region.noSelect l.toArray = true) (fuel : Nat) :
    ∀ (pl : List Nat) (listed : Array Bool) (a : Act) (w : World), HeadInv md l.toArray n listed → takeB md l.toArray n pl listed = true → S w →
      wpMix P l.toArray Q S T (pl.map fun i => (true, l.getD i default)) a w →
      (∀ a w, HeadInv md l.toArray n (pl.foldl (fun b i => b.setIfInBounds i true) listed) → S w → T a w → wpAnyT P md l.toArray Q S n fuel (pl.foldl (fun b i => b.setIfInBounds i true) listed) a w) → wpAnyT P md l.toArray Q S n (pl.length + fuel) listed a w
  | [], listed, a, w, inv, hB, hS, h, hk => by
    rw [List.length_nil, Nat.zero_add]
    exact hk a w inv hS h
  | i :: pl, listed, a, w, inv, hB, hS, h, hk => by
    simp only [takeB, Bool.and_eq_true, decide_eq_true_eq] at hB
    obtain ⟨⟨⟨hr, hf⟩, hin⟩, hB'⟩ := hB
    have hr' : i ∈ Region.ready md l.toArray listed := by simpa using hr
    obtain ⟨_, oi, hoi, _⟩ := mem_ready.1 hr'
    have hd : l.getD i default = oi := by
      simp only [List.getElem?_toArray] at hoi
      simp [List.getD, hoi]
    simp only [List.map_cons] at h
    rw [hd] at h
    obtain ⟨v, hy, h⟩ := h
    rw [List.length_cons, show pl.length + 1 + fuel = pl.length + fuel + 1 by omega]
    exact wpAnyT_first ht hoi (Region.noSelect_spec hsel) hin _ listed a w inv (Region.free_spec hoi hf) hr' hy hS
      (wpAnyT_takes ht hsel fuel pl _ _ w (inv.set hr' hin) hB' hS h hk)
/-- What is asked behind the reads: a condition J, and that each operation keeps it. -/
def FlGoal (P : Program) (md : Region.Mode) (l : List Oper) (n : Nat) (Q : Exit → Act → World → Prop) (S : World → Prop) (C A : List Nat) (L0 : Array Bool) (a : Act) (w : World) : Prop :=
  ∃ J : Nat → Array Bool → Act → World → Prop, J 0 L0 a w ∧ (∀ p listed a w, J p listed a w → S w) ∧
    (∀ p (hp : p < C.length) listed a w, (∀ d ∈ depsOf md l.toArray C[p], listed.getD d true = true) → J p listed a w → wpList P l.toArray (FlQ Q (J (p + 1) (listed.setIfInBounds C[p] true))) [l.getD C[p] default] a w) ∧
    (∀ k ∈ A, ∀ p listed a w, listed.getD k true = false → k < listed.size → J p listed a w → wpList P l.toArray (FlQ Q (J p (listed.setIfInBounds k true))) [l.getD k default] a w) ∧
    (∀ listed a w, J C.length listed a w → wpList P l.toArray Q (l.drop n) a w)
theorem FlGoal.abs {l : List Oper} {C A : List Nat} {L0 : Array Bool} {a : Act} {w : World} (h : ∀ a0, a0 = a → FlGoal P md l n Q S C A L0 a0 w) : FlGoal P md l n Q S C A L0 a w := h a rfl
def afterTake (m : Nat) (pl : List Nat) : Array Bool := pl.foldl (fun b i => b.setIfInBounds i true) (Array.replicate m false)
def flAll (md : Region.Mode) (l : List Oper) (n : Nat) (pl C A : List Nat) : Bool :=
  tailB md l.toArray n && Region.noSelect l.toArray && takeB md l.toArray n pl (Array.replicate l.length false) && flB md l.toArray n C A &&
  Region.seqB md l.toArray (l.drop n).length n (fullTo n l.length) && decide (pl.length + (leftN n (afterTake l.length pl) + (l.drop n).length) = l.length) &&
  (List.range n).all (fun i => C.contains i || A.contains i || (afterTake l.length pl).getD i true) && C.all (fun i => !(afterTake l.length pl).getD i true)
/-- **THE LAW.** -/
theorem wp_region_float {id : Nat} {a : Act} {w : World} {l : List Oper} (S : World → Prop) (n : Nat) (pl C A : List Nat) (hm : P.follows .mixedOrders = true)
    (hB : flAll .any l n pl C A = true) (hS : S w.drew)
    (h : wpMix P l.toArray Q S (FlGoal P .any l n Q S C A (afterTake l.length pl)) (pl.map fun i => (true, l.getD i default)) a w.drew) : (Code.region id l.toArray true).wp P Q a w := by
  simp only [flAll, Bool.and_eq_true, decide_eq_true_eq, List.all_eq_true, List.mem_range, Bool.or_eq_true, Bool.not_eq_true'] at hB
  obtain ⟨⟨⟨⟨⟨⟨⟨ht, hsel⟩, htk⟩, hfl⟩, hsq⟩, hlen⟩, hdone⟩, hch⟩ := hB
  have inv0 : HeadInv .any l.toArray n (Array.replicate l.length false) :=
    ⟨by simp, fun j oj _ hl => (by rw [getD_replicate_false] at hl; cases hl), fun t _ ht => getD_in (by simpa using ht) (getD_replicate_false _ _)⟩
  refine wp_region_any hm (wpAny_of_T (S := S) (n := n) _ _ _ _ ?_)
  have := wpAnyT_takes (Q := Q) (S := S) (P := P) ht hsel (leftN n (afterTake l.length pl) + (l.drop n).length) pl _ a w.drew inv0 htk hS h (fun a w hinv _ hT => by
    obtain ⟨J, j0, jS, jC, jA, jE⟩ := hT
    exact wpAnyT_float hfl ht hsq J jS jC jA jE _ 0 _ a w ⟨hinv, fun i hi h1 h2 => by
      rcases hdone i hi with (h | h) | h
      · exact absurd (List.contains_iff_mem.1 h) h1
      · exact absurd (List.contains_iff_mem.1 h) h2
      · exact h, fun j hj => by rw [show decide (j < 0) = false from rfl]; exact hch _ (List.getElem_mem hj)⟩ (Nat.zero_le _) j0 rfl)
  rw [hlen] at this
  simpa using this
end
end Go.Proofs.YtokbhiokcoldbaaDoor
