/- platterholdsame.Texts at lists that are the same; platterholdref2.Shown. -/
import Derived.Test.YtnglhfeialomgaaDoorPaMk
import Derived.Test.YtnglhfeialomgaaDoorMix
namespace Go.Proofs.YtnglhfeialomgaaDoor
open Go.RowKit

theorem str_cell {w : World} {v : Value} {g : Nat} {l : List (List UInt8)} (h : SlR strE w v g l) : ∃ (A : Option Addr) (o c : Nat), v = .slice A l.length c ∧ l.length ≤ 9223372036854775807 ∧ (0 < l.length → A = some ⟨g, o, none⟩) ∧ ∀ i, i < l.length → w.cell? ⟨g, o + i, none⟩ = some (.string (Pa.mk (l.getD i []))) := by
  obtain ⟨A, o, c, h1, h2, h3, h4⟩ := h.form
  refine ⟨A, o, c, h1, h2, h3, fun i hi => ?_⟩
  have := h4 i hi 0 (by decide)
  simpa [strE, List.getD, hi] using this
set_option maxRecDepth 100000 in
theorem texts_same (w : World) (v u : Value) (g k0 : Nat) (xs : List (List UInt8)) (h : SlR strE w v g xs) (h' : SlR strE w u k0 xs) :
    Calls Tryd.prog 15 #[v, u] w (OkT w) := by
  obtain ⟨A, o, c, rfl, hm, hA, hc⟩ := str_cell h
  obtain ⟨A', o', c', rfl, hm', hA', hc'⟩ := str_cell h'
  clear h h'
  have HA := Lib.hid hA
  have HC := Lib.hid (fun W (hW : Fr [] w W) i (hi : i < xs.length) => hW.cell (hc i hi) (by simp))
  have HA' := Lib.hid hA'
  have HC' := Lib.hid (fun W (hW : Fr [] w W) i (hi : i < xs.length) => hW.cell (hc' i hi) (by simp))
  have HF0 := Lib.hid (Fr.refl [] w)
  clear hA hc hA' hc'
  go_enter Tryd.func15, Tryd.ntmps15
  go_wp2_with fail
  go_loopw [5] (fun i wr => ∃ k : Nat, k ≤ xs.length ∧ i = .int .i64 k ∧ Hid (Fr [] w wr)) (fun i _ => xs.length - (intOf i).toNat)
  case atStart => exact ⟨0, Nat.zero_le _, rfl, HF0⟩
  case round =>
    clear HF0
    obtain ⟨k, hk, rfl, hF⟩ := hrel
    by_cases hlt : k < xs.length
    · obtain rfl := HA.out (by omega)
      obtain rfl := HA'.out (by omega)
      have hcell := HC.out wr hF.out k hlt
      have hcell' := HC'.out wr hF.out k hlt
      have i1 : (0 : Int) ≤ k := by omega
      have i2 : (k : Int) < xs.length := by omega
      generalize Pa.mk (xs.getD k []) = m at *
      go_wp2_with fail
      (refine wp_region_mixq 8 [(true, 0), (true, 1), (true, 2), (true, 3), (true, 4), (true, 5), (true, 6), (true, 7)] (by kernel_rfl) (by kernel_rfl) ?_; simp only [pickOps, List.map_cons, List.map_nil, List.getD_cons_zero, List.getD_cons_succ, List.drop_succ_cons, List.drop_zero]; (iterate 8 (first | (refine wpMix_take (v := ?_) (by rfl) ?_ ?_; rotate_left; (focus (intro W hW; subst hW; go_simp; (try with_reducible rfl); done)); try simp only [Act.put, List.setIfInBounds_toArray, List.set_cons_zero, List.set_cons_succ]) | (refine wpMix_leave (by rfl) ?_; try simp only [Act.put, List.setIfInBounds_toArray, List.set_cons_zero, List.set_cons_succ]))); refine wpMix_nil ?_)
      go_wp2
      go_roundw
      case rel => exact ⟨k + 1, by omega, by go_num, hF.out.step (Fr.refl [] wr).drew (by simp)⟩
      case measure => (simp [intOf]; try omega)
    · have i2 : ¬ (k : Int) < xs.length := by omega
      go_wp2
      go_ret
      exact ⟨rfl, hF.out⟩
theorem flat_take {l : List (List UInt8)} {k : Nat} (h : k < l.length) : (l.take (k + 1)).flatMap (fun p => (47 : UInt8) :: p) = (l.take k).flatMap (fun p => 47 :: p) ++ 47 :: l.getD k [] := by
  rw [List.take_add_one, List.getElem?_eq_getElem h, List.flatMap_append]
  simp [List.getD, h]
theorem flat_le (l : List (List UInt8)) (k : Nat) : ((l.take k).flatMap (fun p => (47 : UInt8) :: p)).length ≤ Pa.long l := by
  rw [Pa.flat_len]
  have : Pa.long l = Pa.long (l.take k) + Pa.long (l.drop k) := by rw [← Pa.long_append, List.take_append_drop]
  omega
theorem flat_le' {l : List (List UInt8)} {k : Nat} (h : k < l.length) : ((l.take k).flatMap (fun p => (47 : UInt8) :: p)).length + 1 + (l.getD k []).length ≤ Pa.long l := by
  have h1 := flat_le l (k + 1)
  rw [flat_take h, List.length_append, List.length_cons] at h1
  omega
set_option maxRecDepth 100000 in
theorem pa_Shown (w : World) (v : Value) (g : Nat) (l : List (List UInt8)) (h : SlR strE w v g l) (hl : Pa.long l ≤ 100000) :
    Calls Tryd.prog 20 #[v] w fun e w' => e = .returned (.string (Pa.mk (Pa.shown l))) ∧ w' = w := by
  obtain ⟨A, o, c, rfl, hm, hA, hc⟩ := str_cell h
  clear h
  by_cases h0 : l = []
  · subst h0
    go_enter Tryd.func20, Tryd.ntmps20
    go_wp2
    go_ret
    exact ⟨rfl, rfl⟩
  · have hpos : 0 < l.length := List.length_pos_iff.2 h0
    have e0 : ((l.length : Int) == 0) = false := beq_eq_false_iff_ne.2 (by omega)
    have hsh : Pa.shown l = l.flatMap (fun p => 47 :: p) := if_neg h0
    have HSH := Lib.hid hsh
    obtain rfl := hA hpos
    have HC := Lib.hid hc
    have HL := Lib.hid hl
    clear hA hc hl h0 hsh
    go_enter Tryd.func20, Tryd.ntmps20
    go_wp2_with fail
    go_loop [3, 4] (fun s i => ∃ k : Nat, k ≤ l.length ∧ i = .int .i64 k ∧ s = .string (Pa.mk ((l.take k).flatMap (fun p => 47 :: p)))) (fun _ i => l.length - (intOf i).toNat)
    case atStart => exact ⟨0, Nat.zero_le _, rfl, rfl⟩
    case round =>
      obtain ⟨k, hk, rfl, rfl⟩ := hrel
      by_cases hlt : k < l.length
      · have q := HC.out k hlt
        have i1 : (0 : Int) ≤ k := by omega
        have i2 : (k : Int) < l.length := by omega
        have hb := flat_le' hlt
        have hl' := HL.out
        have s1 := Pa.mk_size ((l.take k).flatMap (fun p => 47 :: p))
        have s2 := Pa.mk_size (l.getD k [])
        have HE : Hid (Pa.mk ((l.take k).flatMap (fun p => 47 :: p)) ++ (⟨#[47]⟩ : ByteArray) ++ Pa.mk (l.getD k []) = Pa.mk ((l.take (k + 1)).flatMap (fun p => 47 :: p))) := by
          show _ = _
          rw [flat_take hlt, show (⟨#[47]⟩ : ByteArray) = Pa.mk [47] from rfl, mk_append, mk_append, List.append_assoc]
          rfl
        rw [← s1, ← s2] at hb
        clear s1 s2 HC
        generalize Pa.mk ((l.take k).flatMap (fun p => 47 :: p)) = m1 at *
        generalize Pa.mk (l.getD k []) = m2 at *
        have z1 : m1.size ≤ 100000 := by omega
        have z2 : m2.size ≤ 100000 := by omega
        clear hb hl'
        go_wp2
        go_round
        case rel => exact ⟨k + 1, by omega, by go_num, by rw [← HE.out]⟩
        case measure => (simp [intOf]; try omega)
      · obtain rfl : k = l.length := by omega
        have i2 : ¬ (l.length : Int) < l.length := by omega
        rw [List.take_length, ← HSH.out]
        clear HC
        go_wp2
        go_ret
        exact ⟨rfl, rfl⟩
end Go.Proofs.YtnglhfeialomgaaDoor
