/- Trees of directories: find. -/
import Derived.Test.YtnglhfeialomgaaDoorTrHeap
import Derived.Test.YtnglhfeialomgaaDoorPaParts
import Derived.Test.YtnglhfeialomgaaDoorMix
namespace Go.Proofs.YtnglhfeialomgaaDoor
open Go.RowKit

theorem zero_nodeP (w : World) : (zeroValue 46).run Tryd.prog w = .ok (.pointer none) w := by kernel_rfl
theorem mapNil (w : World) (p : Option Nat) : (binOp .eql 49 (.map p) (.map none)).run Tryd.prog w = .ok (.bool p.isNone) w := run_eql_map_nil w _ _ _ p Tryd.underlying49
theorem strs_cell {w : World} {v : Value} {g : Nat} {l : List (List UInt8)} (h : SlR strE w v g l) : ∃ (A : Option Addr) (o c : Nat), v = .slice A l.length c ∧ l.length ≤ 9223372036854775807 ∧ l.length ≤ c ∧ (0 < l.length → A = some ⟨g, o, none⟩) ∧ ∀ i (h : i < l.length), w.cell? ⟨g, o + i, none⟩ = some (.string (Pa.mk l[i])) := by
  rcases h with ⟨rfl, A, c, rfl⟩ | ⟨o, c, rfl, h1, h2, h3⟩
  · exact ⟨A, 0, c, rfl, by simp, by simp, by simp, fun i hi => by simp at hi⟩
  · refine ⟨_, o, c, rfl, by unfold maxLen at h2; omega, h1, fun _ => rfl, fun i hi => ?_⟩
    have := h3 i hi 0 (by decide)
    rw [show o + i * strE.k + 0 = o + i from by show o + i * 1 + 0 = o + i; omega] at this
    rw [this]
    rfl
theorem drop_cons {α : Type} {l : List α} {i : Nat} (h : i < l.length) : l.drop i = l[i] :: l.drop (i + 1) := List.drop_eq_getElem_cons h
set_option maxRecDepth 100000 in
set_option maxHeartbeats 2000000 in
theorem tr_find (w : World) (tb : Nat) (g : Tr.G) (dom : Nat → Prop) (K : Nat) (v : Value) (gs : Nat) (l : List Tr.Nme) (hS : TrS w tb g dom K) (hl : SlR strE w v gs l) (hnm : ∀ p ∈ l, Pa.IsName p) :
    Calls Tryd.prog 41 #[.pointer (some ⟨tb, 0, none⟩), v] w fun e w' => e = .returned (fndV (Tr.fnd g g.root l)) ∧ w' = w := by
  obtain ⟨A, o, c, rfl, hm, -, hA, hc⟩ := strs_cell hl
  have HS := Lib.hid hS
  have HA := Lib.hid hA
  have HC := Lib.hid hc
  have HN := Lib.hid hnm
  have b0 : w.cell? ⟨tb, 0, none⟩ = some (.pointer (some ⟨g.root, 0, none⟩)) := by rw [cell_of_row _ _ _ _ _ _ hS.top]; rfl
  clear hS hA hc hnm hl
  go_enter Tryd.func41, Tryd.ntmps41
  go_wp2
  go_loop [6, 17] (fun nv iv => ∃ i n : Nat, i ≤ l.length ∧ iv = .int .i64 i ∧ nv = .pointer (some ⟨n, 0, none⟩) ∧ Hid (dom n) ∧ Hid (Tr.fnd g g.root l = Tr.fnd g n (l.drop i))) (fun _ iv => l.length - (intOf iv).toNat)
  case atStart => exact ⟨0, g.root, Nat.zero_le _, rfl, rfl, HS.out.rootD, rfl⟩
  case round =>
    obtain ⟨i, n, hi, rfl, rfl, hD, hF⟩ := hrel
    by_cases hlt : i < l.length
    · obtain rfl := HA.out (by omega)
      have qi := HC.out i hlt
      have i0 : (0 : Int) ≤ i := by omega
      have iI : (i : Int) < l.length := by omega
      have hx := HN.out _ (List.getElem_mem hlt)
      have hf := hF.out
      rw [drop_cons hlt] at hf
      have hnode := HS.out.node n hD.out
      have HX := Lib.hid hx.2.1
      generalize l[i] = x at *
      cases he : g.ent n with
      | none =>
        rw [Tr.fnd_file he] at hf
        have h0 := hnode.file he
        have n0 : w.cell? ⟨n, 0, none⟩ = some (.map none) := by rw [cell_of_row _ _ _ _ _ _ h0]; rfl
        have q0 := mapNil w none
        have HF := Lib.hid hf
        clear hf hnode h0 hx he
        go_wp2
        go_ret2
        exact ⟨by rw [HF.out]; rfl, rfl⟩
      | some m =>
        have HENT := Lib.hid he
        obtain ⟨h0, hmap⟩ := hnode.dir he
        have n0 : w.cell? ⟨n, 0, none⟩ = some (.map (some (g.mb n))) := by rw [cell_of_row _ _ _ _ _ _ h0]; rfl
        have q0 := mapNil w (some (g.mb n))
        have HM := Lib.hid hmap
        have hcl := fun c (hc : m x = some c) => HS.out.closed n x c hD.out (by rw [Tr.kid_of he]; exact hc)
        have HCL := Lib.hid hcl
        clear hnode h0 hmap hcl hx he
        cases hmx : m x with
        | none =>
          rw [Tr.fnd_miss HENT.out hmx] at hf
          have HF := Lib.hid hf
          clear hf
          go_wp2_with (at_lookup; refine wpList_slook_ok rfl _ _ rfl HM.out Tryd.underlying9 Tryd.underlying49 (zero_nodeP _) rfl _ rfl (by unfold maxLen; have := HX.out; omega) ?_; rw [hmx]; unfold ptrO)
          go_ret2
          exact ⟨by rw [HF.out]; rfl, rfl⟩
        | some c2 =>
          rw [Tr.fnd_hit HENT.out hmx] at hf
          have HF := Lib.hid hf
          have HD2 := Lib.hid (HCL.out c2 hmx)
          clear hf
          go_wp2_with (at_lookup; refine wpList_slook_ok rfl _ _ rfl HM.out Tryd.underlying9 Tryd.underlying49 (zero_nodeP _) rfl _ rfl (by unfold maxLen; have := HX.out; omega) ?_; rw [hmx]; unfold ptrO)
          go_round
          case rel => exact ⟨i + 1, c2, by omega, by go_num, rfl, HD2, HF⟩
          case measure => (simp [intOf]; try omega)
    · obtain rfl : i = l.length := by omega
      have iI : ¬ ((l.length : Nat) : Int) < l.length := by omega
      have hf := hF.out
      rw [List.drop_length] at hf
      have HF := Lib.hid hf
      clear hf hlt
      go_wp2
      go_ret2
      exact ⟨by rw [HF.out]; rfl, rfl⟩
end Go.Proofs.YtnglhfeialomgaaDoor
