/- strings.SplitSeq at a slash, by Go's text of it. -/
import Derived.Shelf.Abstract
import Derived.Shelf.RegionOpen
import Derived.WalkKit
import Derived.OwnWalkIn
import Derived.TacticsInMore
import Derived.LoopNIn
import Derived.LoopIn
import Derived.Lib.ConvBytes
import Derived.Test.YtnglhfeialomgaaDoorTq03
import Derived.Test.YtnglhfeialomgaaDoorTq08
namespace Go.Proofs.YtnglhfeialomgaaDoor
open Go.RowKit Go.Shelf
attribute [local go_sem] Oper.semAt_some

/-- The boxes of strings.splitSeq, from block b on, lie as they lay. -/
def Kb (b : Nat) (w w' : World) : Prop := ∀ k, b ≤ k → k < b + 3 → w'.heap[k]? = w.heap[k]?
theorem Kb.cell {b : Nat} {w w' : World} (h : Kb b w w') (k : Nat) (h1 : b ≤ k) (h2 : k < b + 3) {v : Value} (hc : w.cell? ⟨k, 0, none⟩ = some v) : w'.cell? ⟨k, 0, none⟩ = some v := (World.cell?_of_block (h k h1 h2)).trans hc
theorem Kb.trans {b : Nat} {x y z : World} (h : Kb b x y) (k : Kb b y z) : Kb b x z := fun i h1 h2 => (k i h1 h2).trans (h i h1 h2)
def strLen : Option Value → Nat
  | some (.string s) => s.size
  | _ => 0
/-- What splitSeq's own boxes hold. -/
structure SpB (b : Nat) (W : World) (rest : List UInt8) : Prop where
  b0 : W.heap[b]? = some (.cells #[.string (Pa.mk rest)] 9 (0, 0))
  c1 : W.cell? ⟨b + 1, 0, none⟩ = some (.string ⟨#[47]⟩)
  c2 : W.cell? ⟨b + 2, 0, none⟩ = some (.int .i64 0)
theorem SpB.c0 {b : Nat} {W : World} {rest : List UInt8} (h : SpB b W rest) : W.cell? ⟨b, 0, none⟩ = some (.string (Pa.mk rest)) := by rw [cell_of_row _ _ _ _ _ _ h.b0]; rfl
theorem SpB.keep {b : Nat} {W W' : World} {rest : List UInt8} (h : SpB b W rest) (hk : Kb b W W') : SpB b W' rest := ⟨(hk b (by omega) (by omega)).trans h.b0, hk.cell (b + 1) (by omega) (by omega) h.c1, hk.cell (b + 2) (by omega) (by omega) h.c2⟩
theorem SpB.set {b : Nat} {W : World} {rest : List UInt8} (h : SpB b W rest) (r : List UInt8) : SpB b (W.setCell ⟨b, 0, none⟩ (.string (Pa.mk r))) r :=
  ⟨set_block h.b0 _, (World.cell?_of_block (Below.heap_setCell W ⟨b, 0, none⟩ _ (b + 1) (by simp))).trans h.c1, (World.cell?_of_block (Below.heap_setCell W ⟨b, 0, none⟩ _ (b + 2) (by simp))).trans h.c2⟩
theorem idx_cut {rest : List UInt8} {i : Nat} (h1 : 47 ∉ rest.take i) (h2 : rest = rest.take i ++ 47 :: rest.drop (i + 1)) : Pa.cut rest = rest.take i :: Pa.cut (rest.drop (i + 1)) := by
  conv => lhs; rw [h2]
  exact Pa.cut_some _ _ h1
theorem mk_take (l : List UInt8) (i : Nat) : (Pa.mk l).extract 0 i = Pa.mk (l.take i) := by rw [Lib.extract_eq, Pa.mk_list]; simp [Pa.mk]
theorem mk_drop (l : List UInt8) (i : Nat) : (Pa.mk l).extract i l.length = Pa.mk (l.drop i) := by
  rw [Lib.extract_eq, Pa.mk_list, List.take_of_length_le (by simp)]
  rfl
set_option maxRecDepth 100000 in
set_option maxHeartbeats 4000000 in
theorem split_seq (n : Nat) (hn : 2 ≤ n) (b : Nat) (l0 : List UInt8) (hl : l0.length ≤ 1000) :
    SeqW Fence.wide n Tryd.prog 72 #[.pointer (some ⟨b + 1, 0, none⟩), .pointer (some ⟨b, 0, none⟩), .pointer (some ⟨b + 2, 0, none⟩)] (fun l => .string (Pa.mk l)) (Kb b) b (fun xs => xs = Pa.cut l0) (fun ys => ys <+: Pa.cut l0) (Pa.cut l0).length (fun W => SpB b W l0) := by
  intro l J Jx W hB hJ hJx hY h0
  have HB := Lib.hid hB
  have HJ := Lib.hid hJ
  have HJx := Lib.hid hJx
  have hn0 : 1 ≤ n := by omega
  have hn1 : 1 ≤ n - 1 := by omega
  clear hB hJ hJx
  refine callsIn_of_wp Tryd.func72 rfl trivial ?_ rfl
  simp only [Tryd.ntmps72, List.size_toArray, List.length_cons, List.length_nil, Nat.reduceAdd, Nat.reduceSub, Array.replicate_succ, Array.replicate_zero, List.push_toArray, List.append_toArray, List.nil_append, List.cons_append]
  obtain ⟨-, c1, c2⟩ := HB.out
  have c0 := HB.out.c0
  gi_wp2
  gi_loopw [7] (fun i wr => ∃ pre rest, Hid (pre ++ Pa.cut rest = Pa.cut l0) ∧ Hid (rest.length ≤ 1000) ∧ J pre wr ∧ Hid (SpB b wr rest)) (fun i wr => strLen (wr.cell? ⟨b, 0, none⟩))
  case atStart => exact ⟨[], l0, rfl, hl, h0, HB.out⟩
  case round =>
    obtain ⟨pre, rest, hp, hr, hJs, hb⟩ := hrel
    obtain ⟨-, c1, c2⟩ := hb.out
    have c0 := hb.out.c0
    clear HB c0 c1 c2 h0
    obtain ⟨-, c1, c2⟩ := hb.out
    have c0 := hb.out.c0
    have hlt : pre.length < (Pa.cut l0).length := by
      rw [← hp.out, List.length_append]
      have : 0 < (Pa.cut rest).length := by
        rcases Nat.eq_zero_or_pos (Pa.cut rest).length with h | h
        · exact absurd (List.eq_nil_of_length_eq_zero h) (Pa.cut_ne rest)
        · exact h
      omega
    by_cases hx : Lib.indexByte rest 47 = -1
    · have hc := Pa.cut_none rest (Pa.idx_none rest hx)
      have HP := Lib.hid (hp.out.symm.trans (by rw [hc]))
      have HX : Hid (Lib.indexByte (Pa.mk rest).data.toList 47 = -1) := by show _ = _; rw [Pa.mk_list]; exact hx
      obtain ⟨fn, tmps, assign, body, hy, hR⟩ := hY pre rest wr hJs hlt
      clear hx hc hp hY HJ HJx hJs hlt
      gi_wp2_with (refine ⟨trivial, ?_⟩; gi_at_call 74; refine (callsIn_wide.2 (index_one _ _ _)).mono ?_; rw [HX.out]; rintro e w3 ⟨rfl, rfl⟩)
      refine hR.mono ?_
      rintro e W3 (⟨rfl, hJ3, hk3⟩ | ⟨rfl, hJx3⟩)
      · gi_wp2
        go_end0
        exact ⟨⟨_, rfl⟩, .inl ⟨_, HP.out.symm, hJ3⟩⟩
      · gi_wp2
        go_end0
        exact ⟨⟨_, rfl⟩, .inr ⟨_, by rw [HP.out]; exact List.prefix_refl _, hJx3⟩⟩
    · obtain ⟨i, hi, hil, hn47, he⟩ := Pa.idx_some rest hx
      have hcut := idx_cut hn47 he
      have hP1 : pre ++ rest.take i :: Pa.cut (rest.drop (i + 1)) = Pa.cut l0 := by rw [← hcut]; exact hp.out
      have HP := Lib.hid hP1
      have HX : Hid (Lib.indexByte (Pa.mk rest).data.toList 47 = (i : Int)) := by show _ = _; rw [Pa.mk_list]; exact hi
      obtain ⟨fn, tmps, assign, body, hy, hR⟩ := hY pre (rest.take i) wr hJs hlt
      have hsz := Pa.mk_size rest
      have hr' := hr.out
      rw [← mk_take] at hy
      have HD := Lib.hid (mk_drop rest (i + 1))
      rw [← hsz] at hil hr' HD
      have HRL := Lib.hid hsz
      generalize hm : Pa.mk rest = m at *
      have HM := Lib.hid hm
      clear hx hi hn47 he hcut hP1 hp hY hJs hlt hsz hm hr
      have hi0 : ¬ ((i : Int) < 0) := by omega
      have hw0 : IntKind.i64.wrap (i : Int) = i := IntWalk.i64_in _ (by omega)
      have hw1 : IntKind.i64.wrap ((i : Int) + 1) = (i : Int) + 1 := IntWalk.i64_in _ (by omega)
      have hi1 : (i : Int) ≤ m.size := by omega
      have hi2 : (i : Int) + 1 ≤ m.size := by omega
      have hi3 : (0 : Int) ≤ i := by omega
      have hi4 : (0 : Int) ≤ (i : Int) + 1 := by omega
      gi_wp2_with (refine ⟨trivial, ?_⟩; gi_at_call 74; refine (callsIn_wide.2 (index_one _ _ _)).mono ?_; rw [HX.out]; rintro e w3 ⟨rfl, rfl⟩)
      refine hR.mono ?_
      rintro e W3 (⟨rfl, hJ3, hk3⟩ | ⟨rfl, hJx3⟩)
      · have hb3 := hb.out.keep hk3
        have HB3 := Lib.hid hb3
        obtain ⟨-, d1, d2⟩ := hb3
        have d0 := HB3.out.c0
        have d3 := free_block HB3.out.b0 0
        rw [HM.out] at d0
        have HC0 := Lib.hid hb.out.c0
        clear hb hk3 c0 c1 c2 hR hy
        gi_wp2
        rw [HD.out]
        go_roundw
        case rel => exact ⟨_, _, by show _ = _; rw [List.append_assoc]; exact HP.out, by show _ ≤ _; rw [List.length_drop, ← HRL.out]; omega, HJ.out _ _ _ hJ3, HB3.out.set _⟩
        case measure =>
          rw [(HB3.out.set _).c0, HC0.out]
          have hl := HRL.out
          simp only [strLen, Pa.mk_size, List.length_drop]
          omega
      · gi_wp2
        refine bodyPost_ret (results_none rfl _ _ _) rfl ?_
        exact ⟨⟨_, rfl⟩, .inr ⟨_, ⟨_, by rw [List.append_assoc]; exact HP.out⟩, hJx3⟩⟩
end Go.Proofs.YtnglhfeialomgaaDoor
/- strings.SplitSeq's iterator as a value; path.Name. -/
namespace Go.Proofs.YtnglhfeialomgaaDoor
open Go.RowKit

theorem split_make (s : ByteArray) (w : World) :
    Calls Tryd.prog 36 #[.string s, .string ⟨#[47]⟩] w fun e w' => e = .returned (.func (.func 72) #[] #[.pointer (some ⟨w.heap.size + 1, 0, none⟩), .pointer (some ⟨w.heap.size, 0, none⟩), .pointer (some ⟨w.heap.size + 2, 0, none⟩)]) ∧
      w' = ((w.alloc (.cells #[.string s] 9)).alloc (.cells #[.string ⟨#[47]⟩] 9)).alloc (.cells #[.int .i64 0] 3) := by
  go_enter Tryd.func36, Tryd.ntmps36
  go_wp2
  go_ret
  exact ⟨rfl, rfl⟩
/-- A byte of a text, as a number. -/
def bt (s : ByteArray) (j : Nat) : Int := ((s.data.toList.getD j 0).toNat : Nat)
def low (x : Int) : Prop := 97 ≤ x ∧ x ≤ 122
theorem name_of {s : ByteArray} (h : (1 : Int) ≤ s.size ∧ (s.size : Int) ≤ 4) (ha : ∀ j, j < s.size → low (bt s j)) : Pa.IsName s.data.toList := by
  have e := Lib.size_eq s
  refine ⟨by omega, by omega, fun b hb => ?_⟩
  obtain ⟨j, hj, rfl⟩ := List.getElem_of_mem hb
  have := ha j (by omega)
  unfold low bt at this
  rw [List.getD_eq_getElem?_getD, List.getElem?_eq_getElem hj] at this
  simp only [Option.getD_some] at this
  omega
theorem not_name_of {s : ByteArray} {j : Nat} (hj : j < s.size) (h : ¬ low (bt s j)) : ¬ Pa.IsName s.data.toList := fun hn => h (by
  have e := Lib.size_eq s
  have hj' : j < s.data.toList.length := by omega
  have := hn.2.2 s.data.toList[j] (List.getElem_mem _)
  unfold low bt
  rw [List.getD_eq_getElem?_getD, List.getElem?_eq_getElem hj']
  simp only [Option.getD_some]
  omega)
theorem bytes_fr (w : World) (e : TypeId) (s : ByteArray) : Fr [] w (Lib.bytesWorld w e s) := ⟨rfl, rfl, rfl, by rw [Lib.bytesWorld_size]; omega, fun k hk _ => Lib.bytesWorld_at_old w e s k hk⟩
set_option maxRecDepth 100000 in
set_option maxHeartbeats 2000000 in
theorem pa_Name (s : ByteArray) (w : World) :
    Calls Tryd.prog 37 #[.string s] w fun e w' => e = .returned (.bool (decide (Pa.IsName s.data.toList))) ∧ Fr [] w w' := by
  by_cases hw : (1 : Int) ≤ s.size ∧ (s.size : Int) ≤ 4
  · have HW := Lib.hid (within_is s.size 1 4 true w (decide_eq_true hw))
    have hcv := Lib.run_convert_string_bytes (P := Tryd.prog) w 9 84 5 s Tryd.underlying9 Tryd.underlying84 Tryd.underlying5
    have HC : Hid (∀ j, j < s.size → (Lib.bytesWorld w 5 s).cell? ⟨w.heap.size, j, none⟩ = some (.int .u8 (bt s j))) := fun j hj => Lib.bytesWorld_cell w 5 s j hj
    have HF := Lib.hid (bytes_fr w 5 s)
    generalize Lib.bytesWorld w 5 s = W at *
    go_enter Tryd.func37, Tryd.ntmps37
    go_wp2_with (go_at_call 49; (with_reducible refine useC HW.out ?_); rintro e w ⟨rfl, rfl⟩)
    go_loop [12] (fun i => ∃ k : Nat, k ≤ s.size ∧ i = .int .i64 k ∧ Hid (∀ j, j < k → low (bt s j))) (fun i => s.size - (intOf i).toNat)
    case atStart => exact ⟨0, Nat.zero_le _, rfl, fun j hj => absurd hj (by omega)⟩
    case round =>
      obtain ⟨k, hk, rfl, hA⟩ := hrel
      by_cases hlt : k < s.size
      · have q := HC.out k hlt
        have k0 : (0 : Int) ≤ k := by omega
        have k1 : (k : Int) < s.size := by omega
        have HB : Hid (∀ x, bt s k = x → ¬ low x → ¬ Pa.IsName s.data.toList) := fun x hx hn => not_name_of hlt (by rw [hx]; exact hn)
        have HG : Hid (∀ x, bt s k = x → low x → ∀ j, j < k + 1 → low (bt s j)) := fun x hx hn j hj => by
          rcases Nat.lt_or_ge j k with h | h
          · exact hA.out j h
          · have : j = k := by omega
            subst this; rw [hx]; exact hn
        obtain ⟨x, hx⟩ : ∃ x, bt s k = x := ⟨_, rfl⟩
        rw [hx] at q
        have HX := Lib.hid hx
        clear hx HC hA
        by_cases h1 : x < 97
        · go_wp2
          go_ret
          exact ⟨by rw [decide_eq_false (HB.out x HX.out (fun h => by have := h.1; omega))]; rfl, HF.out⟩
        · by_cases h2 : 122 < x
          · go_wp2
            go_ret
            exact ⟨by rw [decide_eq_false (HB.out x HX.out (fun h => by have := h.2; omega))]; rfl, HF.out⟩
          · have HL : Hid (low x) := ⟨by omega, by omega⟩
            go_wp2
            go_round
            case rel => exact ⟨k + 1, by omega, by go_num, HG.out x HX.out HL.out⟩
            case measure => (simp [intOf]; try omega)
      · have n1 : ¬ (k : Int) < s.size := by omega
        have HN := Lib.hid (name_of hw (fun j hj => hA.out j (by omega)))
        clear hA HC
        go_wp2
        go_ret
        exact ⟨by rw [decide_eq_true HN.out]; rfl, HF.out⟩
  · have HW := Lib.hid (within_is s.size 1 4 false w (decide_eq_false hw))
    have hn : ¬ Pa.IsName s.data.toList := fun h => hw (by have := h.1; have := h.2.1; rw [← Lib.size_eq] at *; omega)
    go_enter Tryd.func37, Tryd.ntmps37
    go_wp2_with (go_at_call 49; (with_reducible refine useC HW.out ?_); rintro e w ⟨rfl, rfl⟩)
    go_ret
    exact ⟨by rw [decide_eq_false hn]; rfl, Fr.refl _ _⟩
end Go.Proofs.YtnglhfeialomgaaDoor
