/- slices.Insert at []int: an element laid into a row that the call owns. -/

import Derived.Test.YtokbhiokcoldbaaDoorCq02
import Derived.Test.YtokbhiokcoldbaaDoorCq05
import Derived.Test.YtokbhiokcoldbaaDoorCq16
namespace Go.Proofs.YtokbhiokcoldbaaDoor
open Go.RowKit

theorem Tryd.info_insI : (Tryd.prog.info? 3).map (fun i => (i.zero, i.size, i.bytes)) = some (some (.int .i64 0), inE.k, 8) := by kernel_rfl
theorem Tryd.und_insI : Tryd.prog.underlying 25 = some (.slice 3) := by kernel_rfl
/-- What Insert hands back. -/
structure InsAI (w : World) (B : Nat) (v : Value) (l : List Int) (e : Ending) (w' : World) : Prop where
  ans : ∃ v', e = .returned v' ∧ OwnR inE w' B 3 v' l ∧ Moves w v v'
  grown : w.grownBy w' v.ownBlock
theorem InsAI.of {w w3 w' : World} {B : Nat} {v : Value} {l : List Int} {e : Ending} (h : InsAI w3 B v l e w') (hf : Fr [] w w3) : InsAI w B v l e w' := by
  obtain ⟨⟨v', h1, h2, h3⟩, h4⟩ := h
  refine ⟨⟨v', h1, h2, h3.imp id (fun ⟨g, h5, h6⟩ => ⟨g, h5, Nat.le_trans hf.size h6⟩)⟩, ⟨h4.os.trans hf.os, h4.tape.trans hf.tape, h4.output.trans hf.output, Nat.le_trans hf.size h4.size, fun k hk hn => (h4.block k (Nat.lt_of_lt_of_le hk hf.size) hn).trans (hf.block k hk (by simp))⟩⟩

set_option maxRecDepth 100000 in
set_option maxHeartbeats 4000000 in
theorem ins_endI (w : World) (B : Nat) (v : Value) (l : List Int) (x : Int) (q : Nat) (h : OwnR inE w B 3 v l) (hq : w.heap[q]? = some (.cells (inE.enc x).toArray 3 (0, 0))) (hl : l.length ≤ 100000) (hB : B ≤ w.heap.size) :
    Calls Tryd.prog 81 #[v, .int .i64 (l.length : Int), .slice (some ⟨q, 0, none⟩) 1 1] w (InsAI w B v (l ++ [x])) := by
  obtain ⟨i0, hi, hz0, hz1, hz2⟩ := info_parts Tryd.info_insI
  have hrun : ∀ ty, ∃ v' w', (Builtin.append_ #[25, 25] ty #[v, .slice (some ⟨q, 0, none⟩) 1 1]).run Tryd.prog w = .ok v' w' ∧ InsAI w B v (l ++ [x]) (.returned v') w' := fun ty => by
    have hl' : (inE.enc x).length = 1 * inE.k := by rw [inE.len, Nat.one_mul]
    have hn : ∀ j u, (inE.enc x)[j]? = some u → w.cell? ((⟨q, 0, none⟩ : Addr).add j) = some u := by
      have := World.news_of_block (cs := (inE.enc x).toArray) (t := 3) (fr := (0, 0)) hq
      simpa using this
    have hm : l.length + 1 ≤ maxLen := by unfold maxLen; omega
    obtain ⟨v', w', hr, h2, h3, _⟩ := run_append_own (P := Tryd.prog) w B 25 ty 3 i0 _ inE.k 8 Tryd.und_insI hi hz0 hz1 hz2 rfl inE.pos v l.length _ h ⟨q, 0, none⟩ 1 1 _ hl' hn (inE.one x) hm (by omega) hB
    have h5 := append_moved w B 25 ty 3 i0 _ inE.k 8 Tryd.und_insI hi hz0 hz1 hz2 rfl inE.pos v l.length _ h ⟨q, 0, none⟩ 1 1 _ hl' hn (inE.one x) hm (by omega) hB hr
    refine ⟨v', w', hr, ⟨⟨v', rfl, ?_, h5.moves (Nat.le_refl _)⟩, h3⟩⟩
    unfold OwnR
    rw [inE.cells_append, List.length_append, show inE.cells [x] = inE.enc x from List.append_nil _]
    exact h2
  have hsh : ∃ A c, v = .slice A l.length c := by
    rcases h.2 with ⟨rfl, hn⟩ | ⟨g, cap, cur, rfl, _⟩
    · exact ⟨none, 0, by rw [hn]⟩
    · exact ⟨_, cap, rfl⟩
  have HR := Lib.hid hrun
  clear hrun h hq hi hz0 hz1 hz2
  obtain ⟨A, c, hv⟩ := hsh
  have hlI : (l.length : Int) ≤ 100000 := by omega
  subst hv
  go_enter Tryd.func81, Tryd.ntmps81
  cases A with
  | none =>
    go_wp2_with (at_builtin; obtain ⟨v', w2, hr, ha⟩ := HR.out _; refine wpList_appendK rfl _ _ _ _ rfl _ _ rfl rfl hr ?_; have HA := Lib.hid ha; clear hr ha)
    go_ret
    exact HA.out
  | some a =>
    obtain ⟨ab, ao, asp⟩ := a
    by_cases hc : c = l.length
    · subst hc
      go_wp2_with (at_builtin; obtain ⟨v', w2, hr, ha⟩ := HR.out _; refine wpList_appendK rfl _ _ _ _ rfl _ _ rfl rfl hr ?_; have HA := Lib.hid ha; clear hr ha)
      all_goals (go_ret; exact HA.out)
    · go_wp2_with (at_builtin; obtain ⟨v', w2, hr, ha⟩ := HR.out _; refine wpList_appendK rfl _ _ _ _ rfl _ _ rfl rfl hr ?_; have HA := Lib.hid ha; clear hr ha)
      all_goals (go_ret; exact HA.out)

set_option maxRecDepth 100000 in
set_option maxHeartbeats 4000000 in
theorem ins_shiftI (w : World) (B g c i : Nat) (cur : Array Value) (l : List Int) (x : Int) (q : Nat) (hg : w.heap[g]? = some (.cells cur 3 (0, 0))) (hb : B ≤ g) (hc : l.length + 1 ≤ c) (hm : c ≤ maxLen) (hs : cur.size = c * inE.k)
    (ht : cur.toList.take (l.length * inE.k) = inE.cells l) (hi : i < l.length) (hq : w.heap[q]? = some (.cells (inE.enc x).toArray 3 (0, 0))) (hne : q ≠ g) (hl : l.length ≤ 100000) :
    Calls Tryd.prog 81 #[.slice (some ⟨g, 0, none⟩) l.length c, .int .i64 (i : Int), .slice (some ⟨q, 0, none⟩) 1 1] w (InsAI w B (.slice (some ⟨g, 0, none⟩) l.length c) (l.take i ++ x :: l.drop i)) := by
  obtain ⟨i0, hi0, hz0, hz1, hz2⟩ := info_parts Tryd.info_insI
  have hsz : (Tryd.prog.info? 3).map (·.size) = some inE.k := by rw [hi0]; simp [hz1]
  have hszo : ∀ w, (Go.sizeOf 3).run Tryd.prog w = .ok inE.k w := fun w => by simp [Go.sizeOf, typeInfo, hi0, hz1]
  have hkp : inE.k = 1 := rfl
  have hxl := inE.len x
  have e0 : i * inE.k = i := Nat.mul_one i
  have hov : ∀ X lb cb, (callFunc 98 #[.slice (some ⟨q, 0, none⟩) 1 1, .slice (some ⟨g, X, none⟩) lb cb]).run Tryd.prog w = .ok (.value (.bool false)) w := fun X lb cb => by
    rw [run_callFunc_extern Tryd.func98 (by kernel_rfl) (by kernel_rfl) (by kernel_rfl) (e := Extern.SlicesOverlaps.overlaps #[25, 25] #[4]) (by kernel_rfl),
      Lib.run_overlaps_apart w 25 4 3 Tryd.und_insI inE.k hszo ⟨q, 0, none⟩ ⟨g, X, none⟩ 1 1 lb cb hne 3 3 inE.k cur.size (by simp [World.shape?, hq, hxl]) (by simp [World.shape?, hg]) (by rw [hs, hkp]; omega) (free_block hq _ _) (free_block hq _ _)]
    rfl
  have hcl := inE.cells_len l
  have hcs : cur.toList.length = cur.size := Array.length_toList
  have hcu : l.length * inE.k + inE.k ≤ cur.toList.length := by
    have := Nat.mul_le_mul_right inE.k hc
    rw [Nat.add_mul, Nat.one_mul] at this
    rw [hcs, hs]; exact this
  have hik : i * inE.k ≤ l.length * inE.k := Nat.mul_le_mul_right _ (by omega)
  have hdl : ((inE.cells l).drop (i * inE.k)).length = (l.length - i) * inE.k := by rw [List.length_drop, hcl, Nat.sub_mul]
  obtain ⟨C1, hC1⟩ : ∃ C1, C1 = cur.toList.take (i * inE.k + inE.k) ++ (inE.cells l).drop (i * inE.k) ++ cur.toList.drop (i * inE.k + inE.k + (l.length * inE.k - i * inE.k)) := ⟨_, rfl⟩
  obtain ⟨s1, s2, s3⟩ := shift_take cur.toList (inE.cells l) (inE.enc x) (i * inE.k) (l.length * inE.k) inE.k ht hik hcu hxl C1 hC1
  have hcp1 : ∀ W, W.heap[g]? = some (.cells cur 3 (0, 0)) → ∀ ty dc sc X Y n1 n2, X = i * inE.k + inE.k → Y = i * inE.k → n1 = l.length - i → n2 = l.length + 1 - i → (Builtin.copy_ #[25, 25] ty #[.slice (some ⟨g, X, none⟩) n1 dc, .slice (some ⟨g, Y, none⟩) n2 sc]).run Tryd.prog W = .ok (goInt ((l.length - i : Nat) : Int)) (W.setRow g C1.toArray) := fun W hW ty dc sc X Y n1 n2 e1 e2 e3 e4 => by
    subst e1 e2 e3 e4
    have := run_copyK (P := Tryd.prog) W 25 25 ty 3 inE.k g (i * inE.k + inE.k) (l.length - i) dc ⟨g, i * inE.k, none⟩ (l.length + 1 - i) sc cur 3 ((inE.cells l).drop (i * inE.k)) Tryd.und_insI hsz hW (l.length - i) (by simp only [Nat.min_def]; split <;> omega) hdl
      (fun j u hj => by
        have hadd : (⟨g, i * inE.k, none⟩ : Addr).add j = ⟨g, i * inE.k + j, none⟩ := by unfold Addr.add; split <;> simp_all
        rw [hadd, cell_of_row _ _ _ _ _ _ hW]
        rw [List.getElem?_drop, ← ht, List.getElem?_take] at hj
        split at hj
        · simpa using hj
        · cases hj)
      (by rw [hdl, Nat.sub_mul]; omega) (fun u hu => inE.cells_one l u (List.mem_of_mem_drop hu))
    rw [this, hC1, hdl, Nat.sub_mul]
  have hcp2 : ∀ W, W.heap[g]? = some (.cells C1.toArray 3 (0, 0)) → W.heap[q]? = some (.cells (inE.enc x).toArray 3 (0, 0)) → ∀ ty dc Y n1, Y = i * inE.k → n1 = l.length + 1 - i → (Builtin.copy_ #[25, 25] ty #[.slice (some ⟨g, Y, none⟩) n1 dc, .slice (some ⟨q, 0, none⟩) 1 1]).run Tryd.prog W = .ok (goInt 1) (W.setRow g (C1.take (i * inE.k) ++ inE.enc x ++ C1.drop (i * inE.k + inE.k)).toArray) := fun W hW hWq ty dc Y n1 e2 e3 => by
    subst e2 e3
    have := run_copyK (P := Tryd.prog) W 25 25 ty 3 inE.k g (i * inE.k) (l.length + 1 - i) dc ⟨q, 0, none⟩ 1 1 C1.toArray 3 (inE.enc x) Tryd.und_insI hsz hW 1 (by simp only [Nat.min_def]; split <;> omega) (by rw [hxl, Nat.one_mul])
      (by
        have := World.news_of_block (cs := (inE.enc x).toArray) (t := 3) (fr := (0, 0)) hWq
        simpa using this)
      (by rw [hxl, List.size_toArray, s2]; omega) (inE.one x)
    rw [this, hxl]
    rfl
  have HFIN : Hid (∀ W' : World, w.os = W'.os → w.tape = W'.tape → w.output = W'.output → w.heap.size ≤ W'.heap.size → (∀ k, k ≠ g → W'.heap[k]? = w.heap[k]?) → W'.heap[g]? = some (.cells (C1.take (i * inE.k) ++ inE.enc x ++ C1.drop (i * inE.k + inE.k)).toArray 3 (0, 0)) → ∀ n, n = l.length + 1 → InsAI w B (.slice (some ⟨g, 0, none⟩) l.length c) (l.take i ++ x :: l.drop i) (.returned (.slice (some ⟨g, 0, none⟩) n c)) W') := fun W' h1 h2 h3 h4 h5 h6 n hn =>
    ⟨⟨_, rfl, own_at h6 hb (by rw [ins_len l i x (by omega), hn]) (by omega) hm (by rw [List.size_toArray, s3, hcs, hs]) (by rw [hn, Nat.add_mul, Nat.one_mul]; rw [inE.cells_ins]; exact s1), .inl rfl⟩, ⟨h1.symm, h2.symm, h3.symm, h4, fun k _ hk => h5 k (fun e => hk (by rw [e]; rfl))⟩⟩
  have HOV := Lib.hid hov
  obtain ⟨W1, hW1⟩ : ∃ W1, W1 = w.drew.setRow g C1.toArray := ⟨_, rfl⟩
  have hW1g : W1.heap[g]? = some (.cells C1.toArray 3 (0, 0)) := by rw [hW1]; exact setRow_heap w.drew g cur _ _ _ hg
  have hW1o : ∀ k, k ≠ g → W1.heap[k]? = w.heap[k]? := fun k hk => by rw [hW1]; exact setRow_other w.drew g k _ hk
  have hW1q := (hW1o q hne).trans hq
  obtain ⟨W2, hW2⟩ : ∃ W2, W2 = W1.setRow g (C1.take (i * inE.k) ++ inE.enc x ++ C1.drop (i * inE.k + inE.k)).toArray := ⟨_, rfl⟩
  have HFI := Lib.hid (HFIN.out W2 (by rw [hW2, hW1]; rfl) (by rw [hW2, hW1]; rfl) (by rw [hW2, hW1]; rfl) (by rw [hW2, hW1]; simp) (fun k hk => by rw [hW2, setRow_other W1 g k _ hk]; exact hW1o k hk) (by rw [hW2]; exact setRow_heap W1 g _ _ _ _ hW1g))
  have HC1 := Lib.hid (fun ty dc sc => hcp1 w.drew hg ty dc sc (i + 1) (i) (l.length - i) (l.length + 1 - i) (by rw [hkp]; omega) e0.symm rfl rfl)
  rw [← hW1] at HC1
  have HC2 := Lib.hid (fun ty dc => hcp2 W1 hW1g hW1q ty dc (i) (l.length + 1 - i) e0.symm rfl)
  rw [← hW2] at HC2
  clear HFIN hW1g hW1o hW1q hW1 hW2
  have HG := Lib.hid hg
  have HQ := Lib.hid hq
  have hm' : c ≤ 9223372036854775807 := by unfold maxLen at hm; omega
  clear hov hcp1 hcp2 hg hq s1 s2 s3 hC1 hdl hik hcu hcs hcl hxl e0 hkp hszo hsz hz0 hz1 hz2 hi0 hs ht hm
  generalize l.length = n at *
  have i1 : ¬ ((i : Int) = n) := by omega
  have i2 : ¬ ((c : Int) < (n : Int) + 1) := by omega
  have i3 : (i : Int) ≤ n := by omega
  have i4 : (0 : Int) ≤ i := by omega
  have i8 : (i : Int) ≤ (n : Int) + 1 := by omega
  have hb1 : (0 : Int) ≤ (i : Int) + 1 := by omega
  have htn : ((i : Int) + 1).toNat = i + 1 := by omega
  have i5 : (0 : Int) ≤ (n : Int) + 1 := by omega
  have i6 : (n : Int) + 1 ≤ c := by omega
  have i7 : (i : Int) + 1 ≤ (n : Int) + 1 := by omega
  have hnI : (n : Int) ≤ 100000 := by omega
  have hw1 : IntKind.i64.wrap ((n : Int) + 1) = (n : Int) + 1 := by rw [IntKind.wrap_i64]; omega
  have hw2 : IntKind.i64.wrap ((i : Int) + 1) = (i : Int) + 1 := by rw [IntKind.wrap_i64]; omega
  have hb2 : ¬ (c = i + 1) := by omega
  have hb4 : ¬ (c = i) := by omega
  go_enter Tryd.func81, Tryd.ntmps81
  go_wp2_with (rw [HOV.out])
  (refine wp_region_mixq 8 [(true, 0), (true, 1), (true, 2), (true, 3), (true, 4), (true, 5), (true, 6), (true, 7)] (by kernel_rfl) (by kernel_rfl) ?_; simp only [pickOps, List.map_cons, List.map_nil, List.getD_cons_zero, List.getD_cons_succ, List.drop_succ_cons, List.drop_zero]; (iterate 8 (first | (refine wpMix_take (v := ?_) (by rfl) ?_ ?_; rotate_left; (focus (intro W hW; subst hW; go_simp; (try with_reducible rfl); done)); try simp only [Act.put, List.setIfInBounds_toArray, List.set_cons_zero, List.set_cons_succ]) | (refine wpMix_leave (by rfl) ?_; try simp only [Act.put, List.setIfInBounds_toArray, List.set_cons_zero, List.set_cons_succ]))); refine wpMix_nil ?_)
  go_wp2_with (first | rw [HC1.out] | rw [HC2.out])
  go_ret
  exact HFI.out _ rfl

set_option maxRecDepth 100000 in
set_option maxHeartbeats 4000000 in
theorem ins_growI (w : World) (B g c i : Nat) (cur : Array Value) (l : List Int) (x : Int) (q : Nat) (hg : w.heap[g]? = some (.cells cur 3 (0, 0))) (hB : B ≤ w.heap.size) (hlc : l.length ≤ c) (hc : c < l.length + 1)
    (ht : cur.toList.take (l.length * inE.k) = inE.cells l) (hi : i < l.length) (hq : w.heap[q]? = some (.cells (inE.enc x).toArray 3 (0, 0))) (hl : l.length ≤ 100000) :
    Calls Tryd.prog 81 #[.slice (some ⟨g, 0, none⟩) l.length c, .int .i64 (i : Int), .slice (some ⟨q, 0, none⟩) 1 1] w (InsAI w B (.slice (some ⟨g, 0, none⟩) l.length c) (l.take i ++ x :: l.drop i)) := by
  obtain ⟨i0, hi0, hz0, hz1, hz2⟩ := info_parts Tryd.info_insI
  have hsz : (Tryd.prog.info? 3).map (·.size) = some inE.k := by rw [hi0]; simp [hz1]
  have hkp : inE.k = 1 := rfl
  have hxl := inE.len x
  have e0 : i * inE.k = i := Nat.mul_one i
  have hcl := inE.cells_len l
  have hgw := lt_of_heap hg
  have hqw := lt_of_heap hq
  have hik : i * inE.k ≤ l.length * inE.k := Nat.mul_le_mul_right _ (by omega)
  have hdl : ((inE.cells l).drop (i * inE.k)).length = (l.length - i) * inE.k := by rw [List.length_drop, hcl, Nat.sub_mul]
  have htl : ((inE.cells l).take (i * inE.k)).length = i * inE.k := by rw [List.length_take, hcl]; omega
  have hcell : ∀ j u, (inE.cells l)[j]? = some u → cur[j]? = some u := fun j u hj => by
    rw [← ht, List.getElem?_take] at hj
    split at hj
    · simpa using hj
    · cases hj
  have hold : (Builtin.firstCells i0.size i (.slice (some ⟨g, 0, none⟩) i c)).run Tryd.prog w.drew = .ok ((inE.cells l).take (i * inE.k)).toArray w.drew :=
    run_firstCells_some (P := Tryd.prog) w.drew i0.size i ⟨g, 0, none⟩ i c _ (by rw [htl, hz1]) (fun j u hj => by
      have hadd : (⟨g, 0, none⟩ : Addr).add j = ⟨g, 0 + j, none⟩ := by unfold Addr.add; split <;> simp_all
      rw [hadd, Nat.zero_add, cell_of_row w.drew g j cur _ _ hg]
      rw [List.getElem?_take] at hj
      split at hj
      · exact hcell j u hj
      · cases hj)
  have hfit : Builtin.nextslicecap (i + (l.length + 1 - i)) c * i0.bytes ≤ 281474976710656 := by
    rw [hz2, show i + (l.length + 1 - i) = l.length + 1 by omega]
    exact growslice_fits (by omega) (by omega)
  have hrz := fun ty => Lib.run_append_grow_zeros (P := Tryd.prog) w 25 3 ty 3 i0 _ .i64 .i64 Tryd.und_insI (by kernel_rfl) hi0 hz0 (some ⟨g, 0, none⟩) i c _ hold (l.length + 1 - i) (by omega) (by rw [hz1]; exact inE.pos) (by omega) (by omega) (by rw [hz2]; omega) hfit
  rw [show i + (l.length + 1 - i) = l.length + 1 by omega] at hrz
  have hkk : ((l.length + 1 - i : Nat) : Int) = (l.length : Int) + 1 - (i : Int) := by omega
  rw [hkk] at hrz
  have hGn := grownCap_ge w (l.length + 1) c 3
  have hGm := grownCap_le_maxLen w (l.length + 1) c 3 (by unfold maxLen; omega)
  generalize grownCap w (l.length + 1) c 3 = G at *
  obtain ⟨Z, hZ⟩ : ∃ Z, Z = Builtin.zeroCells (Value.cells (.int .i64 0)) (l.length + 1 - i) ++ Builtin.zeroCells (Value.cells (.int .i64 0)) (G - (l.length + 1)) := ⟨_, rfl⟩
  have hzc : (Value.cells (.int .i64 0)).size = inE.k := by rfl
  have hZs : Z.size = (l.length + 1 - i) * inE.k + (G - (l.length + 1)) * inE.k := by
    rw [hZ, Array.size_append]
    simp only [Builtin.zeroCells, Array.size_map, Array.size_range, hzc]
  obtain ⟨ROW, hROW⟩ : ∃ ROW : Array Value, ROW = ((inE.cells l).take (i * inE.k)).toArray ++ Z := ⟨_, rfl⟩
  have hrow : ROW.toList = (inE.cells l).take (i * inE.k) ++ Z.toList := by rw [hROW]; simp
  have hRs : ROW.toList.length = G * inE.k := by
    rw [hrow, List.length_append, htl, Array.length_toList, hZs, ← Nat.add_mul, ← Nat.add_mul]
    congr 1
    omega
  rw [Array.append_assoc, ← hZ, ← hROW] at hrz
  have hGk : l.length * inE.k + inE.k ≤ ROW.toList.length := by
    have := Nat.mul_le_mul_right inE.k hGn
    rw [Nat.add_mul, Nat.one_mul] at this
    rw [hRs]; exact this
  obtain ⟨R1, hR1⟩ : ∃ R1, R1 = ROW.toList.take (i * inE.k) ++ inE.enc x ++ ROW.toList.drop (i * inE.k + inE.k) := ⟨_, rfl⟩
  obtain ⟨s1, s2, s3⟩ := grow_take ROW.toList (inE.cells l) (inE.enc x) Z.toList (i * inE.k) (l.length * inE.k) inE.k hcl hik hrow hGk hxl R1 hR1
  obtain ⟨W0, hW0⟩ : ∃ W0, W0 = w.drew.alloc (.cells ROW 3) := ⟨_, rfl⟩
  rw [← hW0] at hrz
  have h0n : W0.heap[w.heap.size]? = some (.cells ROW 3 (0, 0)) := by rw [hW0]; exact heap_alloc_new w.drew _
  have h0o : ∀ k, k < w.heap.size → W0.heap[k]? = w.heap[k]? := fun k hk => by rw [hW0]; exact Below.heap_alloc w.drew _ k hk
  have h0s : W0.heap.size = w.heap.size + 1 := by rw [hW0]; simp
  obtain ⟨W1, hW1⟩ : ∃ W1, W1 = W0.setRow w.heap.size R1.toArray := ⟨_, rfl⟩
  have h1n : W1.heap[w.heap.size]? = some (.cells R1.toArray 3 (0, 0)) := by rw [hW1]; exact setRow_heap W0 _ _ _ _ _ h0n
  have h1o : ∀ k, k < w.heap.size → W1.heap[k]? = w.heap[k]? := fun k hk => by rw [hW1, setRow_other W0 _ k _ (by omega)]; exact h0o k hk
  obtain ⟨W2, hW2⟩ : ∃ W2, W2 = W1.drew.setRow w.heap.size (R1.take (i * inE.k + inE.k) ++ (inE.cells l).drop (i * inE.k) ++ R1.drop (i * inE.k + inE.k + (l.length * inE.k - i * inE.k))).toArray := ⟨_, rfl⟩
  have h2n : W2.heap[w.heap.size]? = some (.cells (R1.take (i * inE.k + inE.k) ++ (inE.cells l).drop (i * inE.k) ++ R1.drop (i * inE.k + inE.k + (l.length * inE.k - i * inE.k))).toArray 3 (0, 0)) := by rw [hW2]; exact setRow_heap W1.drew _ _ _ _ _ h1n
  have h2o : ∀ k, k < w.heap.size → W2.heap[k]? = w.heap[k]? := fun k hk => by rw [hW2, setRow_other W1.drew _ k _ (by omega)]; exact h1o k hk
  have HFI : Hid (∀ n, n = l.length + 1 → InsAI w B (.slice (some ⟨g, 0, none⟩) l.length c) (l.take i ++ x :: l.drop i) (.returned (.slice (some ⟨w.heap.size, 0, none⟩) n G)) W2) := fun n hn =>
    ⟨⟨_, rfl, own_at h2n hB (by rw [ins_len l i x (by omega), hn]) (by omega) hGm (by rw [List.size_toArray, s3, hRs]) (by rw [hn, Nat.add_mul, Nat.one_mul]; rw [inE.cells_ins]; exact s1), .inr ⟨_, rfl, Nat.le_refl _⟩⟩,
      ⟨by rw [hW2, hW1, hW0]; rfl, by rw [hW2, hW1, hW0]; rfl, by rw [hW2, hW1, hW0]; rfl, by rw [hW2, hW1, setRow_size]; show w.heap.size ≤ (W0.setRow _ _).heap.size; rw [setRow_size, h0s]; omega, fun k hk _ => h2o k hk⟩⟩
  have HC1 := Lib.hid (fun ty dc => by
    have hr := run_copyK (P := Tryd.prog) W0 25 25 ty 3 inE.k w.heap.size (i * inE.k) (l.length + 1 - i) dc ⟨q, 0, none⟩ 1 1 ROW 3 (inE.enc x) Tryd.und_insI hsz h0n 1 (by simp only [Nat.min_def]; split <;> omega) (by rw [hxl, Nat.one_mul])
      (by
        have := World.news_of_block (cs := (inE.enc x).toArray) (t := 3) (fr := (0, 0)) ((h0o q hqw).trans hq)
        simpa using this)
      (by
        have hRz : ROW.toList.length = ROW.size := Array.length_toList
        rw [hxl]; omega) (inE.one x)
    rw [hxl, ← hR1, ← hW1, e0] at hr
    exact hr)
  have HC2 := Lib.hid (fun ty dc sc => by
    have hr := run_copyK (P := Tryd.prog) W1.drew 25 25 ty 3 inE.k w.heap.size (i * inE.k + inE.k) (l.length - i) dc ⟨g, i * inE.k, none⟩ (l.length - i) sc R1.toArray 3 ((inE.cells l).drop (i * inE.k)) Tryd.und_insI hsz h1n (l.length - i) (by simp only [Nat.min_def]; split <;> omega) hdl
      (fun j u hj => by
        have hadd : (⟨g, i * inE.k, none⟩ : Addr).add j = ⟨g, i * inE.k + j, none⟩ := by unfold Addr.add; split <;> simp_all
        rw [hadd, cell_of_row W1.drew g _ cur _ _ ((h1o g hgw).trans hg)]
        rw [List.getElem?_drop] at hj
        exact hcell _ u hj)
      (by rw [hdl, Nat.sub_mul, List.size_toArray, s2]; omega) (fun u hu => inE.cells_one l u (List.mem_of_mem_drop hu))
    rw [hdl, Nat.sub_mul] at hr
    have e : i * inE.k + inE.k = i + 1 := by rw [hkp]; omega
    rw [show R1.toArray.toList = R1 from rfl, ← hW2, e, e0] at hr
    exact hr)
  have HRZ := Lib.hid hrz
  have hGm' : G ≤ 9223372036854775807 := by unfold maxLen at hGm; omega
  clear hrz hrow hRs hROW hZs hzc hZ hGk s1 s2 s3 hR1 h0n h0o h0s hW0 hW1 h1n h1o hW2 h2n h2o hGm hold hfit hkk hcell htl hdl hik hqw hgw hcl hxl e0 hkp hsz hi0 hz0 hz1 hz2 ht hg hq
  generalize l.length = n at *
  obtain rfl : c = n := by omega
  generalize w.heap.size = h at *
  have i1 : ¬ ((i : Int) = c) := by omega
  have i2 : (c : Int) < (c : Int) + 1 := by omega
  have i3 : (i : Int) ≤ c := by omega
  have i4 : (0 : Int) ≤ i := by omega
  have i8 : (i : Int) ≤ (c : Int) + 1 := by omega
  have hb1 : (0 : Int) ≤ (i : Int) + 1 := by omega
  have htn : ((i : Int) + 1).toNat = i + 1 := by omega
  have i5 : (0 : Int) ≤ (c : Int) + 1 := by omega
  have i7 : (i : Int) + 1 ≤ (c : Int) + 1 := by omega
  have hnI : (c : Int) ≤ 100000 := by omega
  have hw1 : IntKind.i64.wrap ((c : Int) + 1) = (c : Int) + 1 := by rw [IntKind.wrap_i64]; omega
  have hw2 : IntKind.i64.wrap ((i : Int) + 1) = (i : Int) + 1 := by rw [IntKind.wrap_i64]; omega
  have hw3 : IntKind.i64.wrap ((c : Int) + 1 - i) = (c : Int) + 1 - i := by rw [IntKind.wrap_i64]; omega
  have hb2 : ¬ (G = i + 1) := by omega
  have hb4 : ¬ (G = i) := by omega
  have hb5 : ¬ (c = i) := by omega
  go_enter Tryd.func81, Tryd.ntmps81
  go_wp2_with (first | (at_builtin; refine wpList_appendK rfl _ _ _ _ rfl _ _ rfl rfl (HRZ.out _) ?_) | rw [HC1.out])
  (refine wp_region_mixq 8 [(true, 0), (true, 1), (true, 2), (true, 3), (true, 4), (true, 5), (true, 6), (true, 7)] (by kernel_rfl) (by kernel_rfl) ?_; simp only [pickOps, List.map_cons, List.map_nil, List.getD_cons_zero, List.getD_cons_succ, List.drop_succ_cons, List.drop_zero]; (iterate 8 (first | (refine wpMix_take (v := ?_) (by rfl) ?_ ?_; rotate_left; (focus (intro W hW; subst hW; go_simp; (try with_reducible rfl); done)); try simp only [Act.put, List.setIfInBounds_toArray, List.set_cons_zero, List.set_cons_succ]) | (refine wpMix_leave (by rfl) ?_; try simp only [Act.put, List.setIfInBounds_toArray, List.set_cons_zero, List.set_cons_succ]))); refine wpMix_nil ?_)
  go_wp2_with (rw [HC2.out])
  go_ret
  exact HFI.out _ rfl
theorem insI (w : World) (B : Nat) (v : Value) (i : Nat) (l : List Int) (x : Int) (q : Nat) (h : OwnR inE w B 3 v l) (hi : i ≤ l.length) (hq : w.heap[q]? = some (.cells (inE.enc x).toArray 3 (0, 0))) (hqv : v.ownBlock ≠ some q) (hl : l.length ≤ 100000) (hB : B ≤ w.heap.size) :
    Calls Tryd.prog 81 #[v, .int .i64 (i : Int), .slice (some ⟨q, 0, none⟩) 1 1] w (InsAI w B v (l.take i ++ x :: l.drop i)) := by
  by_cases hi2 : i = l.length
  · have e : l.take i ++ x :: l.drop i = l ++ [x] := by rw [hi2]; simp
    rw [e, hi2]
    exact ins_endI w B v l x q h hq hl hB
  · have hlt : i < l.length := by omega
    rcases h.2 with ⟨rfl, hn⟩ | ⟨g, cap, cur, rfl, hb, hg, hc, hm, hs, ht⟩
    · omega
    · by_cases hroom : l.length + 1 ≤ cap
      · exact ins_shiftI w B g cap i cur l x q hg hb hroom hm hs ht hlt hq (fun e => hqv (by rw [e]; rfl)) hl
      · exact ins_growI w B g cap i cur l x q hg hB hc (by omega) ht hlt hq hl
end Go.Proofs.YtokbhiokcoldbaaDoor
