/- What the laws of package cow share: Put with one answer; stored; the closed fact. -/
import Derived.Test.YtbedfffmicbgmaaCoShare
import Derived.Test.YtbedfffmicbgmaaCInts
import Derived.Test.YtbedfffmicbgmaaRw2
namespace Go.Proofs.Ytbedfffmicbgmaa
open Go.RowKit

/-- In a law that began at w: the store. -/
structure CoL (w wr : World) (sb : Nat) (st : List Ct) : Prop where
  s : CoS w.heap.size wr sb st
  fr : Fr [] w wr
theorem CoL.step {w wr w' : World} {sb : Nat} {st : List Ct} (h : CoL w wr sb st) (hf : Fr [] wr w') : CoL w w' sb st := ⟨h.s.step hf, h.fr.trans hf⟩
theorem CoL.turn {w wr w' : World} {sb : Nat} {st st' : List Ct} (h : CoL w wr sb st) (hs : CoS w.heap.size w' sb st') (hk : CoK sb wr w') : CoL w w' sb st' := ⟨hs, hk.fr h.s h.fr (Nat.le_refl _)⟩
def CoPutB (w0 : World) (sb : Nat) (st : List Ct) (v k x : Int) (w : World) (e : Ending) (w' : World) : Prop :=
  ∃ r c st', e = .returned (.tuple #[.int .i64 r, errV c]) ∧ CoL w0 w' sb st' ∧ CoK sb w w' ∧ c = Co.putErr st v k x ∧ ((c = 0 ∧ r = st.length ∧ ∃ N, w.heap.size ≤ N ∧ st' = st ++ [Co.put (Co.tree st v) N k x]) ∨ (c ≠ 0 ∧ r = 0 ∧ st' = st))
theorem co_Put (w0 w : World) (sb : Nat) (st : List Ct) (v k x : Int) (hS : CoL w0 w sb st) :
    Calls Try.prog 8 #[.pointer (some ⟨sb, 0, none⟩), .int .i64 v, .int .i64 k, .int .i64 x] w (CoPutB w0 sb st v k x w) := by
  by_cases h : Co.putErr st v k x = 0
  · refine (co_Put_ok w _ sb st v k x hS.s hS.fr.size h).mono fun e w' ⟨N, hN, he, hs, hk⟩ => ?_
    exact ⟨_, 0, _, he, hS.turn hs hk, hk, h.symm, .inl ⟨rfl, rfl, N, hN, rfl⟩⟩
  · refine (co_Put_err w _ sb st v k x _ hS.s rfl h).mono fun e w' ⟨he, hf⟩ => ?_
    exact ⟨0, _, st, by rw [he, errV_no h], hS.step hf, CoK.of_fr hS.s hf, rfl, .inr ⟨h, rfl, rfl⟩⟩
def CoStA (w : World) (e : Ending) (w' : World) : Prop := ∃ sb st, e = .returned (.pointer (some ⟨sb, 0, none⟩)) ∧ CoL w w' sb st
set_option maxRecDepth 100000 in
set_option maxHeartbeats 2000000 in
theorem co_stored (w : World) (v : Value) (ls : List (List Int)) (hR : Rw w.heap.size w v ls) :
    Calls Try.prog 7 #[v] w (CoStA w) := by
  obtain ⟨A, g, o, c, rfl, hm, hF⟩ := hR
  have HF := Lib.hid hF
  clear hF
  go_enter Try.func7, Try.ntmps7
  go_wp2_with (go_at_call 16; (with_reducible refine useC (co_new w) ?_); rintro e w1 ⟨sb, rfl, hs, hf⟩; have HL0 : Hid (CoL w w1 sb [.nil]) := ⟨hs, hf⟩; clear hs hf)
  go_loopw [4] (fun i wr => ∃ k : Nat, k ≤ ls.length ∧ k ≤ 25 ∧ i = .int .i64 k ∧ ∃ st, Hid (CoL w wr sb st)) (fun i _ => 25 - (intOf i).toNat)
  case atStart => exact ⟨0, Nat.zero_le _, Nat.zero_le _, rfl, _, HL0⟩
  case round =>
    obtain ⟨k, hk, hk8, rfl, st, hS⟩ := hrel
    clear HL0
    by_cases hin : k < ls.length ∧ k < 25
    · obtain ⟨hlt, h80⟩ := hin
      obtain ⟨rfl, hg⟩ := HF.out.1 (by omega)
      obtain ⟨u, kb, hcell0, hkb, hsl, _⟩ := HF.out.2 k hlt
      have hcell := hS.out.fr.cell hcell0 (by simp)
      obtain ⟨A', o', c', rfl, hm', hA', hc'⟩ := hsl.form
      have i0 : (0 : Int) ≤ k := by omega
      have i1 : (k : Int) < ls.length := by omega
      have i80 : (k : Int) < 25 := by omega
      clear hsl
      by_cases hl3 : (nthR ls k).length = 3
      · obtain rfl := hA' (by omega)
        have c0 := hc' 0 (by omega)
        have c1 := hc' 1 (by omega)
        have c2 := hc' 2 (by omega)
        rw [Nat.add_zero] at c0
        have HC0 := Lib.hid (fun W (hW : Fr [] w W) => And.intro (hW.cell hcell0 (by simp)) (And.intro (hW.cell c0 (by simp)) (And.intro (hW.cell c1 (by simp)) (hW.cell c2 (by simp)))))
        rw [hl3] at hcell HC0
        clear hc' hA' hkb hcell0 c0 c1 c2
        generalize nth (nthR ls k) 0 = x0 at *
        generalize nth (nthR ls k) 1 = x1 at *
        generalize nth (nthR ls k) 2 = x2 at *
        obtain ⟨-, c0, c1, c2⟩ := HC0.out wr hS.out.fr
        have HDR := Lib.hid (hS.out.step (Fr.refl [] wr).drew)
        go_wp2_with fail
        (refine wp_region_mixq 19 [(true, 0), (true, 1), (true, 2), (true, 3), (true, 4), (true, 5), (true, 6), (true, 7), (true, 8), (true, 9), (true, 10), (true, 11), (true, 12), (true, 13), (true, 14), (true, 15), (true, 16), (true, 17), (true, 18)] (by kernel_rfl) (by kernel_rfl) ?_; simp only [pickOps, List.map_cons, List.map_nil, List.getD_cons_zero, List.getD_cons_succ, List.drop_succ_cons, List.drop_zero]; (iterate 19 (first | (refine wpMix_take (v := ?_) (by rfl) ?_ ?_; rotate_left; (focus (intro W hW; subst hW; go_simp; (try with_reducible rfl); done)); try simp only [Act.put, List.setIfInBounds_toArray, List.set_cons_zero, List.set_cons_succ]) | (refine wpMix_leave (by rfl) ?_; try simp only [Act.put, List.setIfInBounds_toArray, List.set_cons_zero, List.set_cons_succ]))); refine wpMix_nil ?_)
        go_wp2_with (go_at_call 8; (with_reducible refine useC (co_Put w _ sb st x0 x1 x2 HDR.out) ?_); rintro e w3 ⟨r, cc, st', rfl, hl, -, -⟩; have HS3 := Lib.hid hl; clear hl)
        go_roundw
        case rel => exact ⟨k + 1, by omega, by omega, by go_num, _, HS3⟩
        case measure => (simp [intOf]; try omega)
      · have e1 : (((nthR ls k).length : Int) == 3) = false := beq_eq_false_iff_ne.2 (by omega)
        clear hc' hA' hkb hcell0
        go_wp2
        go_roundw
        case rel => exact ⟨k + 1, by omega, by omega, by go_num, _, hS⟩
        case measure => (simp [intOf]; try omega)
    · have hout : ¬ (k : Int) < ls.length ∨ ((k : Int) < ls.length ∧ ¬ (k : Int) < 25) := by omega
      rcases hout with hout | ⟨hout, hout'⟩
      all_goals
        go_wp2
        go_ret
        exact ⟨sb, st, rfl, hS.out⟩
/-- Keys, with the row as it reads; it lies in none of the store's blocks. -/
def CoKeysB (w0 : World) (sb : Nat) (st : List Ct) (v : Int) (w : World) (e : Ending) (w' : World) : Prop :=
  ∃ A c g, e = .returned (.tuple #[.slice A (Co.keys (Co.tree st v)).length c, .nilIface]) ∧ Own w' (w.heap.size + 1) 3 (.slice A (Co.keys (Co.tree st v)).length c) (Co.keys (Co.tree st v)) ∧ Sl w' (.slice A (Co.keys (Co.tree st v)).length c) g (Co.keys (Co.tree st v)) ∧ (Co.keys (Co.tree st v) = [] ∨ ¬ CoF w' sb g) ∧ CoL w0 w' sb st ∧ Fr [] w w'
theorem co_KeysB (w0 w : World) (sb : Nat) (st : List Ct) (v : Int) (hS : CoL w0 w sb st) (hv : Co.has st v) :
    Calls Try.prog 9 #[.pointer (some ⟨sb, 0, none⟩), .int .i64 v] w (CoKeysB w0 sb st v w) := by
  refine (co_keys w _ sb st v hS.s hv).mono fun e w' ⟨A, c, he, ho, hf⟩ => ?_
  obtain ⟨g, hg, hs⟩ := ho.sl
  refine ⟨A, c, g, he, ho, hs, ?_, hS.step hf, hf⟩
  rcases hg with hg | hg
  · exact .inr (fun hc => by have := hS.s.footLt g (hS.s.footFr hf g hc); omega)
  · exact .inl hg
theorem Co.putErr_len {st : List Ct} (st' : List Ct) (h : st.length = st'.length) (v k x : Int) : Co.putErr st v k x = Co.putErr st' v k x := by
  have hh : Co.has st v ↔ Co.has st' v := by unfold Co.has; rw [h]
  unfold Co.putErr
  by_cases hv : Co.has st' v
  · rw [if_pos (hh.2 hv), if_pos hv, h]
  · rw [if_neg (fun q => hv (hh.1 q)), if_neg hv]
/-- Of a closed fact: a tree of one node, one more key. -/
theorem Co.fact (N1 N2 : Nat) (h : N1 < N2) : Co.shared (Co.put .nil N1 5 1) (Co.put (Co.put .nil N1 5 1) N2 3 2) = 0 ∧ Co.keys (Co.put (Co.put .nil N1 5 1) N2 3 2) = [3, 5] := by
  constructor
  · have hB : Co.blks (Co.put (Co.put .nil N1 5 1) N2 3 2) = [N2 + 1, N2] := by simp [Co.put, Co.blks, Co.nodes]
    have hA : Co.blks (Co.put .nil N1 5 1) = [N1] := by simp [Co.put, Co.blks, Co.nodes]
    unfold Co.shared
    rw [hA, hB, List.filter_eq_nil_iff.2]
    · rfl
    · intro b hb
      simp only [List.mem_cons, List.not_mem_nil, or_false] at hb
      simp only [List.contains_iff_mem, List.mem_singleton]
      omega
  · simp [Co.put, Co.keys, Co.nodes]
set_option maxRecDepth 100000 in
set_option maxHeartbeats 2000000 in
theorem co_fact (w : World) : Calls Try.prog 6 #[] w (OkT w) := by
  go_enter Try.func6, Try.ntmps6
  go_wp2_with fail
  refine useC (co_new w) ?_
  rintro e w1 ⟨sb, rfl, hs, hf⟩
  have HL0 : Hid (CoL w w1 sb [.nil]) := ⟨hs, hf⟩
  clear hs hf
  go_wp2_with fail
  refine useC (co_Put w w1 sb _ 0 5 1 HL0.out) ?_
  rintro e w2 ⟨r, c, st', rfl, hl, hk, hc, hcase⟩
  have hp : Co.putErr [.nil] 0 5 1 = 0 := by decide
  rw [hp] at hc
  subst hc
  obtain ⟨-, rfl, N1, hN1, rfl⟩ := hcase.resolve_right (fun h => h.1 rfl)
  have HL1 : Hid (CoL w w2 sb [.nil, Co.put .nil N1 5 1]) := hl
  clear hl hk hcase
  rw [show errV 0 = .nilIface from rfl, show (((([.nil] : List Ct).length : Nat) : Int)) = 1 from rfl]
  go_wp2_with fail
  refine useC (co_Put w w2 sb _ 1 3 2 HL1.out) ?_
  rintro e w3 ⟨r, c, st', rfl, hl, hk, hc, hcase⟩
  have hp : Co.putErr [.nil, Co.put .nil N1 5 1] 1 3 2 = 0 := (Co.putErr_len [.nil, .nil] rfl 1 3 2).trans (by decide)
  rw [hp] at hc
  subst hc
  obtain ⟨-, rfl, N2, hN2, rfl⟩ := hcase.resolve_right (fun h => h.1 rfl)
  have HL2 : Hid (CoL w w3 sb [.nil, Co.put .nil N1 5 1, Co.put (Co.put .nil N1 5 1) N2 3 2]) := hl
  have hlt : N1 < N2 := by
    have h1 := (HL1.out.s.ok.apt (Co.put .nil N1 5 1) (by simp)).2 N1 (by simp [Co.put, Co.blks, Co.nodes])
    omega
  obtain ⟨hf1, hf2⟩ := Co.fact N1 N2 hlt
  clear hl hk hcase hN2 hp
  rw [show errV 0 = .nilIface from rfl, show (((([.nil, Co.put .nil N1 5 1] : List Ct).length : Nat) : Int)) = 2 from rfl]
  have HSH := Lib.hid (co_shared w3 _ sb _ 1 2 HL2.out.s)
  rw [show coShared [.nil, Co.put .nil N1 5 1, Co.put (Co.put .nil N1 5 1) N2 3 2] 1 2 = .tuple #[.int .i64 0, .nilIface] from (if_pos ⟨⟨by decide, by show (1 : Int) ≤ 3 - 1; decide⟩, ⟨by decide, by show (2 : Int) ≤ 3 - 1; decide⟩⟩).trans (by
    show Value.tuple #[.int .i64 (Co.shared (Co.put .nil N1 5 1) (Co.put (Co.put .nil N1 5 1) N2 3 2) : Int), .nilIface] = _
    rw [hf1]; rfl)] at HSH
  have HF2 : Hid (Co.keys (Co.tree [.nil, Co.put .nil N1 5 1, Co.put (Co.put .nil N1 5 1) N2 3 2] 2) = [3, 5]) := hf2
  clear hf1 hf2 hlt hN1
  have HKB := Lib.hid (fun W (hW : Fr [] w3 W) => co_KeysB w W sb _ 2 (HL2.out.step hW) ⟨by decide, by show (2 : Int) ≤ 3 - 1; decide⟩)
  go_wp2_with (first
    | (go_at_call 14; (with_reducible refine useC HSH.out ?_); rintro e w4 ⟨rfl, hf⟩; have HF4 := Lib.hid hf; clear hf)
    | (go_at_call 9; (with_reducible refine useC (HKB.out w4 HF4.out) ?_); rintro e w5 ⟨A, c, g, rfl, -, hs, -, hl, hf⟩; rw [HF2.out] at hs ⊢; have HS5 := Lib.hid hs; have HL5 := Lib.hid hl; have HI := Lib.hid (ints_same (w5.alloc (.cells #[.int .i64 3, .int .i64 5] 3)) _ (.slice (some ⟨w5.heap.size, 0, none⟩) 2 2) g w5.heap.size [3, 5] (HS5.out.fr ((Fr.refl [] w5).alloc _) (by simp)) (sl_new [3, 5] (heap_alloc_new w5 _) (show 2 ≤ maxLen by decide))); clear hs hl hf)
    | (go_at_call 13; (with_reducible refine useC HI.out ?_); rintro e w6 ⟨rfl, hd⟩; have HF6 : Hid (Fr [] w w6) := (HL5.out.fr.alloc _).trans (hd.fr []); clear hd))
  go_ret
  exact ⟨rfl, HF6.out⟩
end Go.Proofs.Ytbedfffmicbgmaa
