/- Fsck's plain law: what an image's faults are, and what mending leaves. No program in sight. -/
import Derived.Test.YtbohlbnbaomkiaaBase
namespace Go.Proofs.Ytbohlbnbaomkiaa

/-- An entry's name and inode, by its place. -/
def entN (E : List (Int × Int)) (k : Nat) : Int := (E.getD k (0, 0)).1
def entI (E : List (Int × Int)) (k : Nat) : Int := (E.getD k (0, 0)).2
namespace Fk
/-- Did a name stand among the first k? -/
def seen (E : List (Int × Int)) (k : Nat) (x : Int) : Bool := (E.take k).any fun e => e.1 == x
/-- Is an inode in use? -/
def used (C : List Int) (i : Int) : Bool := decide (i < C.length) && !(nth C i.toNat == 0)
def wrong (C : List Int) (E : List (Int × Int)) (k : Nat) : Bool := seen E k (entN E k) || !used C (entI E k)
/-- Of the first n entries the wrong ones' places; the right ones; how many right ones name an inode. -/
def wr (C : List Int) (E : List (Int × Int)) (n : Nat) : List Int := ((List.range n).filter fun k => wrong C E k).map fun k : Nat => (k : Int)
def kp (C : List Int) (E : List (Int × Int)) (n : Nat) : List (Int × Int) := ((List.range n).filter fun k => !wrong C E k).map fun k => E.getD k (0, 0)
def nm (C : List Int) (E : List (Int × Int)) (n : Nat) (i : Int) : Int := ((List.range n).filter fun k => !wrong C E k && entI E k == i).length
/-- All numbers of names, of the first n entries. -/
def nms (C : List Int) (E : List (Int × Int)) (n : Nat) : List Int := (List.range C.length).map fun i : Nat => nm C E n i
/-- Of the first n inodes those that say another number. -/
def od (C : List Int) (N : List Int) (n : Nat) : List Int := ((List.range n).filter fun i => !(nth N i == nth C i)).map fun i : Nat => (i : Int)
def okE (E : List (Int × Int)) : Bool := E.all fun e => decide (0 ≤ e.1 ∧ e.1 ≤ 1000) && decide (0 ≤ e.2 ∧ e.2 ≤ 1000)
def okC (C : List Int) : Bool := C.all fun x => decide (0 ≤ x ∧ x ≤ 1000)
/-- What is wrong with an image. -/
def check (C : List Int) (E : List (Int × Int)) : Int := if C.length ≤ 8 ∧ E.length ≤ 12 then (if okC C then (if okE E then 0 else 1) else 1) else 4
def faults1 (C : List Int) (E : List (Int × Int)) : List Int := wr C E E.length
def faults2 (C : List Int) (E : List (Int × Int)) : List Int := od C (nms C E E.length) C.length
def mendC (C : List Int) (E : List (Int × Int)) : List Int := nms C E E.length
def mendE (C : List Int) (E : List (Int × Int)) : List (Int × Int) := kp C E E.length

/-! ### Steps -/
theorem seen_step (E : List (Int × Int)) (k : Nat) (hk : k < E.length) (x : Int) : seen E (k + 1) x = (seen E k x || entN E k == x) := by
  unfold seen entN
  rw [List.take_succ_eq_append_getElem hk, List.any_append]
  simp [List.getD, hk]
theorem wr_step (C : List Int) (E : List (Int × Int)) (n : Nat) : wr C E (n + 1) = if wrong C E n = true then wr C E n ++ [(n : Int)] else wr C E n := by
  unfold wr
  rw [List.range_succ, List.filter_append, List.map_append]
  cases h : wrong C E n <;> simp [h]
theorem kp_step (C : List Int) (E : List (Int × Int)) (n : Nat) : kp C E (n + 1) = if wrong C E n = true then kp C E n else kp C E n ++ [E.getD n (0, 0)] := by
  unfold kp
  rw [List.range_succ, List.filter_append, List.map_append]
  cases h : wrong C E n <;> simp [h]
theorem nm_step (C : List Int) (E : List (Int × Int)) (n : Nat) (i : Int) : nm C E (n + 1) i = if wrong C E n = true then nm C E n i else (if entI E n = i then nm C E n i + 1 else nm C E n i) := by
  unfold nm
  rw [List.range_succ, List.filter_append, List.length_append]
  cases h : wrong C E n
  · by_cases e : entI E n = i
    · simp [h, e]
    · simp [h, e]
  · simp [h]
theorem nm_nonneg (C : List Int) (E : List (Int × Int)) (n : Nat) (i : Int) : 0 ≤ nm C E n i ∧ nm C E n i ≤ n := by
  unfold nm
  have := List.length_filter_le (fun k => !wrong C E k && entI E k == i) (List.range n)
  simp at this
  omega
theorem nms_len (C : List Int) (E : List (Int × Int)) (n : Nat) : (nms C E n).length = C.length := by simp [nms]
theorem nms_nth (C : List Int) (E : List (Int × Int)) (n i : Nat) (h : i < C.length) : nth (nms C E n) i = nm C E n i := by simp [nth, nms, List.getD, h]
theorem nms_wrong (C : List Int) (E : List (Int × Int)) (n : Nat) (h : wrong C E n = true) : nms C E (n + 1) = nms C E n := by
  unfold nms
  apply List.map_congr_left
  intro i _
  rw [nm_step, if_pos h]
theorem nms_right (C : List Int) (E : List (Int × Int)) (n : Nat) (h : wrong C E n = false) (i : Nat) (hi : i < C.length) (e : entI E n = (i : Int)) : nms C E (n + 1) = (nms C E n).set i (nth (nms C E n) i + 1) := by
  apply List.ext_getElem
  · simp [nms]
  · intro j h1 h2
    have hj : j < C.length := by simpa [nms] using h1
    rw [List.getElem_set]
    have e1 : (nms C E (n + 1))[j] = nm C E (n + 1) j := by simp [nms]
    have e2 : (nms C E n)[j]'(by simpa [nms] using hj) = nm C E n j := by simp [nms]
    rw [e1, nm_step, if_neg (by rw [h]; decide)]
    by_cases hij : i = j
    · subst hij
      rw [if_pos e, if_pos rfl, nms_nth C E n i hi]
    · rw [if_neg (by rw [e]; omega), if_neg hij, e2]
theorem od_step (C N : List Int) (n : Nat) : od C N (n + 1) = if (nth N n == nth C n) = true then od C N n else od C N n ++ [(n : Int)] := by
  unfold od
  rw [List.range_succ, List.filter_append, List.map_append]
  cases h : (nth N n == nth C n) <;> simp [h]
theorem used_spec (C : List Int) (i : Int) (h0 : 0 ≤ i) : used C i = true ↔ i.toNat < C.length ∧ nth C i.toNat ≠ 0 := by
  unfold used
  simp
  omega
theorem wr_len (C : List Int) (E : List (Int × Int)) (n : Nat) : (wr C E n).length ≤ n := by
  unfold wr
  have := List.length_filter_le (fun k => wrong C E k) (List.range n)
  simpa using this
theorem kp_len (C : List Int) (E : List (Int × Int)) (n : Nat) : (kp C E n).length ≤ n := by
  unfold kp
  have := List.length_filter_le (fun k => !wrong C E k) (List.range n)
  simpa using this
theorem od_len (C N : List Int) (n : Nat) : (od C N n).length ≤ n := by
  unfold od
  have := List.length_filter_le (fun i => !(nth N i == nth C i)) (List.range n)
  simpa using this
theorem wr_kp_len (C : List Int) (E : List (Int × Int)) (n : Nat) : (kp C E n).length + (wr C E n).length = n := by
  induction n with
  | zero => simp [wr, kp]
  | succ n ih =>
    rw [wr_step, kp_step]
    by_cases h : wrong C E n = true
    · rw [if_pos h, if_pos h, List.length_append]; simp; omega
    · rw [if_neg h, if_neg h, List.length_append]; simp; omega
theorem mem_wr (C : List Int) (E : List (Int × Int)) (n k : Nat) : ((k : Int) ∈ wr C E n) ↔ k < n ∧ wrong C E k = true := by
  unfold wr
  rw [List.mem_map]
  constructor
  · rintro ⟨a, ha, e⟩
    obtain rfl : a = k := by omega
    have := List.mem_filter.1 ha
    exact ⟨by simpa using this.1, this.2⟩
  · rintro ⟨h1, h2⟩
    exact ⟨k, List.mem_filter.2 ⟨by simpa using h1, h2⟩, rfl⟩
theorem has_wr (C : List Int) (E : List (Int × Int)) (n k : Nat) (h : k < n) : hasB (wr C E n) k = wrong C E k := by
  unfold hasB
  rw [Bool.eq_iff_iff, List.contains_iff_mem, mem_wr]
  exact ⟨fun h => h.2, fun h' => ⟨h, h'⟩⟩

/-! ### What is kept -/
theorem kp_names (C : List Int) (E : List (Int × Int)) (n : Nat) (hn : n ≤ E.length) : (kp C E n).Pairwise (fun a b => a.1 ≠ b.1) := by
  unfold kp
  rw [List.pairwise_map]
  have h0 : (List.range n).Pairwise (fun a b => a < b) := List.pairwise_lt_range
  have h1 := h0.filter (fun k => !wrong C E k)
  refine h1.imp_of_mem ?_
  intro a b ha hb hab
  have hb' := (List.mem_filter.1 hb).2
  have hbn : b < n := by simpa using (List.mem_filter.1 hb).1
  intro e
  have hw : wrong C E b = true := by
    unfold wrong
    have : seen E b (entN E b) = true := by
      unfold seen
      rw [List.any_eq_true]
      have hae : a < E.length := by omega
      refine ⟨E[a], ?_, ?_⟩
      · rw [List.mem_take_iff_getElem]
        exact ⟨a, by omega, rfl⟩
      · unfold entN
        rw [← e]
        simp [List.getD, hae]
    rw [this]; rfl
  rw [hw] at hb'
  cases hb'
theorem kp_used (C : List Int) (E : List (Int × Int)) (n : Nat) (hn : n ≤ E.length) : ∀ e ∈ kp C E n, used C e.2 = true ∧ e ∈ E := by
  intro e he
  unfold kp at he
  rw [List.mem_map] at he
  obtain ⟨k, hk, rfl⟩ := he
  obtain ⟨h1, h2⟩ := List.mem_filter.1 hk
  have hkn : k < n := by simpa using h1
  have hke : k < E.length := by omega
  refine ⟨?_, ?_⟩
  · unfold wrong at h2
    unfold entI at h2
    cases hu : used C (E.getD k (0, 0)).2
    · rw [hu] at h2; simp at h2
    · rfl
  · simp [List.getD, hke]
/-- How often an inode is named among what is kept. -/
theorem nm_kp (C : List Int) (E : List (Int × Int)) (n : Nat) (i : Int) : nm C E n i = ((kp C E n).filter fun e => e.2 == i).length := by
  induction n with
  | zero => simp [nm, kp]
  | succ n ih =>
    rw [nm_step, kp_step]
    by_cases h : wrong C E n = true
    · rw [if_pos h, if_pos h, ih]
    · rw [if_neg h, if_neg h, List.filter_append, List.length_append, ih]
      by_cases e : entI E n = i
      · have : ([E.getD n (0, 0)].filter fun e => e.2 == i).length = 1 := by
          unfold entI at e
          rw [List.filter_cons, if_pos (by simpa using e)]
          rfl
        rw [if_pos e, this]
        omega
      · have : ([E.getD n (0, 0)].filter fun e => e.2 == i).length = 0 := by
          unfold entI at e
          rw [List.filter_cons, if_neg (by simpa using e)]
          rfl
        rw [if_neg e, this]
        omega
/-- Nothing wrong among entries whose names are all other ones, and whose inodes are in use: they all stay. -/
theorem all_right (C : List Int) (E : List (Int × Int)) (h1 : E.Pairwise (fun a b => a.1 ≠ b.1)) (h2 : ∀ e ∈ E, used C e.2 = true) (k : Nat) (hk : k < E.length) : wrong C E k = false := by
  unfold wrong
  have hu : used C (entI E k) = true := by
    unfold entI
    have : E.getD k (0, 0) ∈ E := by simp [List.getD, hk]
    exact h2 _ this
  have hs : seen E k (entN E k) = false := by
    unfold seen
    rw [List.any_eq_false]
    intro e he hx
    rw [List.mem_take_iff_getElem] at he
    obtain ⟨j, hj, rfl⟩ := he
    have hj' : j < k := by omega
    have := (List.pairwise_iff_getElem.1 h1) j k (by omega) hk hj'
    apply this
    have hx' : E[j].1 = entN E k := by simpa using hx
    rw [hx']
    simp [entN, List.getD, hk]
  rw [hs, hu]; rfl
theorem kp_all (C : List Int) (E : List (Int × Int)) (h : ∀ k, k < E.length → wrong C E k = false) (n : Nat) (hn : n ≤ E.length) : kp C E n = E.take n := by
  induction n with
  | zero => simp [kp]
  | succ n ih =>
    rw [kp_step, if_neg (by rw [h n (by omega)]; decide), ih (by omega), List.take_succ_eq_append_getElem (by omega)]
    simp [List.getD, show n < E.length by omega]
theorem wr_all (C : List Int) (E : List (Int × Int)) (h : ∀ k, k < E.length → wrong C E k = false) (n : Nat) (hn : n ≤ E.length) : wr C E n = [] := by
  induction n with
  | zero => simp [wr]
  | succ n ih => rw [wr_step, if_neg (by rw [h n (by omega)]; decide), ih (by omega)]
theorem od_nil (C N : List Int) (n : Nat) (h : ∀ i, i < n → nth N i = nth C i) : od C N n = [] := by
  induction n with
  | zero => simp [od]
  | succ n ih => rw [od_step, if_pos (by simp [h n (by omega)]), ih (fun i hi => h i (by omega))]

/-! ### The image that is mended -/
section
variable (C : List Int) (E : List (Int × Int))
theorem mend_names : (mendE C E).Pairwise (fun a b => a.1 ≠ b.1) := kp_names C E _ (Nat.le_refl _)
theorem mendC_len : (mendC C E).length = C.length := nms_len C E _
theorem mendC_nth (i : Nat) (h : i < C.length) : nth (mendC C E) i = ((mendE C E).filter fun e => e.2 == (i : Int)).length := by
  unfold mendC mendE
  rw [nms_nth C E _ i h, nm_kp]
variable (hC : C.length ≤ 8) (hE : E.length ≤ 12) (hok : okE E = true)
include hok
theorem ent_bounds : ∀ e ∈ E, 0 ≤ e.1 ∧ e.1 ≤ 1000 ∧ 0 ≤ e.2 ∧ e.2 ≤ 1000 := by
  intro e he
  unfold okE at hok
  rw [List.all_eq_true] at hok
  have := hok e he
  simp at this
  omega
/-- An inode that is named by what is kept is in use in what is mended, whatever more it says. -/
theorem mend_used (X : List Int) (hX : X.length = C.length) (hle : ∀ i, i < C.length → nth (mendC C E) i ≤ nth X i) : ∀ e ∈ mendE C E, used X e.2 = true := by
  intro e he
  obtain ⟨h1, h2⟩ := kp_used C E _ (Nat.le_refl _) e he
  have hb := ent_bounds E hok e h2
  rw [used_spec _ _ hb.2.2.1] at h1 ⊢
  refine ⟨by omega, ?_⟩
  have h3 := hle e.2.toNat h1.1
  rw [mendC_nth C E _ h1.1] at h3
  have h4 : 0 < ((mendE C E).filter fun x => x.2 == ((e.2.toNat : Nat) : Int)).length := by
    rw [List.length_pos_iff_exists_mem]
    refine ⟨e, List.mem_filter.2 ⟨he, ?_⟩⟩
    simp
    omega
  omega
theorem mend_right (X : List Int) (hX : X.length = C.length) (hle : ∀ i, i < C.length → nth (mendC C E) i ≤ nth X i) (k : Nat) (hk : k < (mendE C E).length) : wrong X (mendE C E) k = false :=
  all_right X _ (mend_names C E) (mend_used C E hok X hX hle) k hk
theorem again_faults1 (X : List Int) (hX : X.length = C.length) (hle : ∀ i, i < C.length → nth (mendC C E) i ≤ nth X i) : faults1 X (mendE C E) = [] := wr_all X _ (mend_right C E hok X hX hle) _ (Nat.le_refl _)
theorem again_mendE (X : List Int) (hX : X.length = C.length) (hle : ∀ i, i < C.length → nth (mendC C E) i ≤ nth X i) : mendE X (mendE C E) = mendE C E := by
  have := kp_all X _ (mend_right C E hok X hX hle) _ (Nat.le_refl _)
  rw [List.take_length] at this
  exact this
theorem again_mendC (X : List Int) (hX : X.length = C.length) (hle : ∀ i, i < C.length → nth (mendC C E) i ≤ nth X i) : mendC X (mendE C E) = mendC C E := by
  apply List.ext_getElem
  · rw [mendC_len, mendC_len, hX]
  · intro i h1 h2
    have hi : i < C.length := by rw [mendC_len] at h2; exact h2
    have e1 := mendC_nth X (mendE C E) i (by omega)
    have e2 := mendC_nth C E i hi
    rw [again_mendE C E hok X hX hle] at e1
    simp only [nth, List.getD, List.getElem?_eq_getElem h1, List.getElem?_eq_getElem h2, Option.getD_some] at e1 e2
    rw [e1, e2]
include hC hE
theorem again_check (X : List Int) (hX : X.length = C.length) (hb : ∀ i, i < C.length → 0 ≤ nth X i ∧ nth X i ≤ 1000) : check X (mendE C E) = 0 := by
  unfold check
  have hl : (mendE C E).length ≤ 12 := Nat.le_trans (kp_len C E _) hE
  rw [if_pos ⟨by omega, hl⟩]
  have h1 : okC X = true := by
    unfold okC
    rw [List.all_eq_true]
    intro x hx
    obtain ⟨i, hi, rfl⟩ := List.getElem_of_mem hx
    have := hb i (by omega)
    simp only [nth, List.getD, List.getElem?_eq_getElem hi, Option.getD_some] at this
    simpa using this
  have h2 : okE (mendE C E) = true := by
    unfold okE
    rw [List.all_eq_true]
    intro e he
    have := ent_bounds E hok e (kp_used C E _ (Nat.le_refl _) e he).2
    simp
    omega
  rw [h1, h2]; rfl
end
theorem mendC_bound (C : List Int) (E : List (Int × Int)) (_hC : C.length ≤ 8) (hE : E.length ≤ 12) (_hok : okE E = true) (i : Nat) (h : i < C.length) : 0 ≤ nth (mendC C E) i ∧ nth (mendC C E) i ≤ 12 := by
  have := nm_nonneg C E E.length i
  unfold mendC
  rw [nms_nth C E _ i h]
  omega
theorem check_ok {C : List Int} {E : List (Int × Int)} (h : check C E = 0) : C.length ≤ 8 ∧ E.length ≤ 12 ∧ okC C = true ∧ okE E = true := by
  unfold check at h
  split at h
  · rename_i hl
    split at h
    · rename_i h1
      split at h
      · rename_i h2
        exact ⟨hl.1, hl.2, h1, h2⟩
      · cases h
    · cases h
  · cases h
theorem check_cases (C : List Int) (E : List (Int × Int)) : check C E = 0 ∨ check C E = 1 ∨ check C E = 4 := by
  unfold check
  split
  · split
    · split
      · exact .inl rfl
      · exact .inr (.inl rfl)
    · exact .inr (.inl rfl)
  · exact .inr (.inr rfl)
/-- **FsckMends.** -/
theorem mends {C : List Int} {E : List (Int × Int)} (h : check C E = 0) : check (mendC C E) (mendE C E) = 0 ∧ faults1 (mendC C E) (mendE C E) = [] ∧ faults2 (mendC C E) (mendE C E) = [] ∧
    mendC (mendC C E) (mendE C E) = mendC C E ∧ mendE (mendC C E) (mendE C E) = mendE C E := by
  obtain ⟨h1, h2, h3, h4⟩ := check_ok h
  have hX := mendC_len C E
  have hle : ∀ i, i < C.length → nth (mendC C E) i ≤ nth (mendC C E) i := fun _ _ => Int.le_refl _
  have hc := again_mendC C E h4 _ hX hle
  refine ⟨again_check C E h1 h2 h4 _ hX (fun i hi => ?_), again_faults1 C E h4 _ hX hle, ?_, hc, again_mendE C E h4 _ hX hle⟩
  · have := mendC_bound C E h1 h2 h4 i hi
    omega
  · unfold faults2
    refine od_nil _ _ _ (fun i hi => ?_)
    have : nms (mendC C E) (mendE C E) (mendE C E).length = mendC C E := hc
    rw [this]
/-- **FsckLeaks.** -/
theorem leaks {C : List Int} {E : List (Int × Int)} (h : check C E = 0) (i : Nat) (hi : i < C.length) (more : Int) (h0 : 0 ≤ more) (h500 : more ≤ 500) :
    check ((mendC C E).set i (nth (mendC C E) i + more)) (mendE C E) = 0 ∧ faults1 ((mendC C E).set i (nth (mendC C E) i + more)) (mendE C E) = [] ∧
    faults2 ((mendC C E).set i (nth (mendC C E) i + more)) (mendE C E) = (if 0 < more then [(i : Int)] else []) ∧
    mendC ((mendC C E).set i (nth (mendC C E) i + more)) (mendE C E) = mendC C E ∧ mendE ((mendC C E).set i (nth (mendC C E) i + more)) (mendE C E) = mendE C E := by
  obtain ⟨h1, h2, h3, h4⟩ := check_ok h
  have hl := mendC_len C E
  have hX : ((mendC C E).set i (nth (mendC C E) i + more)).length = C.length := by rw [List.length_set, hl]
  have hn : ∀ j, j < C.length → nth ((mendC C E).set i (nth (mendC C E) i + more)) j = if i = j then nth (mendC C E) i + more else nth (mendC C E) j := by
    intro j hj
    unfold nth List.getD
    rw [List.getElem?_set]
    by_cases e : i = j
    · subst e
      rw [if_pos rfl, if_pos (by omega), if_pos rfl]
      rfl
    · rw [if_neg e, if_neg e]
  have hle : ∀ j, j < C.length → nth (mendC C E) j ≤ nth ((mendC C E).set i (nth (mendC C E) i + more)) j := by
    intro j hj
    rw [hn j hj]
    split
    · rename_i e; subst e; omega
    · exact Int.le_refl _
  have hc := again_mendC C E h4 _ hX hle
  refine ⟨again_check C E h1 h2 h4 _ hX (fun j hj => ?_), again_faults1 C E h4 _ hX hle, ?_, hc, again_mendE C E h4 _ hX hle⟩
  · have hb := mendC_bound C E h1 h2 h4 j hj
    rw [hn j hj]
    split
    · rename_i e; subst e; omega
    · omega
  · unfold faults2
    have e0 : nms ((mendC C E).set i (nth (mendC C E) i + more)) (mendE C E) (mendE C E).length = mendC C E := hc
    rw [e0, hX]
    generalize hY : (mendC C E).set i (nth (mendC C E) i + more) = Y at *
    have key : ∀ n, n ≤ C.length → od Y (mendC C E) n = if 0 < more ∧ i < n then [(i : Int)] else [] := by
      intro n
      induction n with
      | zero => intro _; simp [od]
      | succ n ih =>
        intro hnl
        rw [od_step, ih (by omega), hn n (by omega)]
        by_cases e : i = n
        · subst e
          rw [if_pos rfl]
          by_cases hm : 0 < more
          · rw [if_neg (by simp; omega), if_neg (by omega), if_pos (by omega)]; rfl
          · rw [if_pos (by simp; omega), if_neg (by omega), if_neg (by omega)]
        · rw [if_neg e, if_pos (by simp)]
          by_cases hm : 0 < more ∧ i < n
          · rw [if_pos hm, if_pos (by omega)]
          · rw [if_neg hm, if_neg (by omega)]
    rw [key _ (Nat.le_refl _)]
    by_cases hm : 0 < more
    · rw [if_pos ⟨hm, hi⟩, if_pos hm]
    · rw [if_neg (by omega), if_neg hm]
/-- **FsckKeeps**: an image without faults. -/
theorem keeps_all {C : List Int} {E : List (Int × Int)} (ha : faults1 C E = []) (hb : faults2 C E = []) : mendC C E = C ∧ mendE C E = E := by
  have hw : ∀ k, k < E.length → wrong C E k = false := by
    intro k hk
    cases hx : wrong C E k
    · rfl
    · have := (mem_wr C E E.length k).2 ⟨hk, hx⟩
      unfold faults1 at ha
      rw [ha] at this
      cases this
  have h1 : mendE C E = E := by
    have := kp_all C E hw _ (Nat.le_refl _)
    rw [List.take_length] at this
    exact this
  refine ⟨?_, h1⟩
  have hl := mendC_len C E
  have key : ∀ n, od C (mendC C E) n = [] → ∀ i, i < n → nth (mendC C E) i = nth C i := by
    intro n
    induction n with
    | zero => intro _ i hi; omega
    | succ n ih =>
      intro h i hi
      rw [od_step] at h
      by_cases hq : (nth (mendC C E) n == nth C n) = true
      · rw [if_pos hq] at h
        by_cases e : i = n
        · subst e; simpa using hq
        · exact ih h i (by omega)
      · rw [if_neg hq] at h
        simp at h
  apply List.ext_getElem hl
  intro i h1 h2
  have := key C.length hb i h2
  simpa only [nth, List.getD, List.getElem?_eq_getElem h1, List.getElem?_eq_getElem h2, Option.getD_some] using this
theorem keeps_len (C : List Int) (E : List (Int × Int)) : (mendC C E).length = C.length ∧ (mendE C E).length + (faults1 C E).length = E.length := ⟨mendC_len C E, wr_kp_len C E _⟩
theorem keeps_zero (C : List Int) (E : List (Int × Int)) (hok : okE E = true) (i : Nat) (hi : i < C.length) (h : nth C i = 0) : nth (mendC C E) i = 0 := by
  rw [mendC_nth C E i hi]
  have : (mendE C E).filter (fun e => e.2 == (i : Int)) = [] := by
    rw [List.filter_eq_nil_iff]
    intro e he hx
    obtain ⟨h1, h2⟩ := kp_used C E _ (Nat.le_refl _) e he
    have hb := ent_bounds E hok e h2
    rw [used_spec _ _ hb.2.2.1] at h1
    have : e.2.toNat = i := by simp at hx; omega
    rw [this] at h1
    exact h1.2 h
  rw [this]; rfl
end Fk
end Go.Proofs.Ytbohlbnbaomkiaa
