/- strings.SplitSeq's iterator as a value; path.Name. -/
import Derived.Test.YtnglhfeialomgaaDoorPaSplit
import Derived.Lib.ConvBytes
namespace Go.Proofs.YtnglhfeialomgaaDoor
open Go.RowKit

theorem split_make (s : ByteArray) (w : World) :
    Calls Tryd.prog 36 #[.string s, .string ⟨#[47]⟩] w fun e w' => e = .returned (.func (.func 72) #[] #[.pointer (some ⟨w.heap.size + 1, 0, none⟩), .pointer (some ⟨w.heap.size, 0, none⟩), .pointer (some ⟨w.heap.size + 2, 0, none⟩)]) ∧
      w' = ((w.alloc (.cells #[.string s] 9)).alloc (.cells #[.string ⟨#[47]⟩] 9)).alloc (.cells #[.int .i64 0] 3) := by
  go_enter Tryd.func36, Tryd.ntmps36
  go_wp2
  go_ret
  exact ⟨rfl, rfl⟩
/-- A byte of a text, as a number. -/
def bt (s : ByteArray) (j : Nat) : Int := ((s.data.toList.getD j 0).toNat : Nat)
def low (x : Int) : Prop := 97 ≤ x ∧ x ≤ 122
theorem name_of {s : ByteArray} (h : (1 : Int) ≤ s.size ∧ (s.size : Int) ≤ 4) (ha : ∀ j, j < s.size → low (bt s j)) : Pa.IsName s.data.toList := by
  have e := Lib.size_eq s
  refine ⟨by omega, by omega, fun b hb => ?_⟩
  obtain ⟨j, hj, rfl⟩ := List.getElem_of_mem hb
  have := ha j (by omega)
  unfold low bt at this
  rw [List.getD_eq_getElem?_getD, List.getElem?_eq_getElem hj] at this
  simp only [Option.getD_some] at this
  omega
theorem not_name_of {s : ByteArray} {j : Nat} (hj : j < s.size) (h : ¬ low (bt s j)) : ¬ Pa.IsName s.data.toList := fun hn => h (by
  have e := Lib.size_eq s
  have hj' : j < s.data.toList.length := by omega
  have := hn.2.2 s.data.toList[j] (List.getElem_mem _)
  unfold low bt
  rw [List.getD_eq_getElem?_getD, List.getElem?_eq_getElem hj']
  simp only [Option.getD_some]
  omega)
theorem bytes_fr (w : World) (e : TypeId) (s : ByteArray) : Fr [] w (Lib.bytesWorld w e s) := ⟨rfl, rfl, rfl, by rw [Lib.bytesWorld_size]; omega, fun k hk _ => Lib.bytesWorld_at_old w e s k hk⟩
set_option maxRecDepth 100000 in
set_option maxHeartbeats 2000000 in
theorem pa_Name (s : ByteArray) (w : World) :
    Calls Tryd.prog 37 #[.string s] w fun e w' => e = .returned (.bool (decide (Pa.IsName s.data.toList))) ∧ Fr [] w w' := by
  by_cases hw : (1 : Int) ≤ s.size ∧ (s.size : Int) ≤ 4
  · have HW := Lib.hid (within_is s.size 1 4 true w (decide_eq_true hw))
    have hcv := Lib.run_convert_string_bytes (P := Tryd.prog) w 9 84 5 s Tryd.underlying9 Tryd.underlying84 Tryd.underlying5
    have HC : Hid (∀ j, j < s.size → (Lib.bytesWorld w 5 s).cell? ⟨w.heap.size, j, none⟩ = some (.int .u8 (bt s j))) := fun j hj => Lib.bytesWorld_cell w 5 s j hj
    have HF := Lib.hid (bytes_fr w 5 s)
    generalize Lib.bytesWorld w 5 s = W at *
    go_enter Tryd.func37, Tryd.ntmps37
    go_wp2_with (go_at_call 49; (with_reducible refine useC HW.out ?_); rintro e w ⟨rfl, rfl⟩)
    go_loop [12] (fun i => ∃ k : Nat, k ≤ s.size ∧ i = .int .i64 k ∧ Hid (∀ j, j < k → low (bt s j))) (fun i => s.size - (intOf i).toNat)
    case atStart => exact ⟨0, Nat.zero_le _, rfl, fun j hj => absurd hj (by omega)⟩
    case round =>
      obtain ⟨k, hk, rfl, hA⟩ := hrel
      by_cases hlt : k < s.size
      · have q := HC.out k hlt
        have k0 : (0 : Int) ≤ k := by omega
        have k1 : (k : Int) < s.size := by omega
        have HB : Hid (∀ x, bt s k = x → ¬ low x → ¬ Pa.IsName s.data.toList) := fun x hx hn => not_name_of hlt (by rw [hx]; exact hn)
        have HG : Hid (∀ x, bt s k = x → low x → ∀ j, j < k + 1 → low (bt s j)) := fun x hx hn j hj => by
          rcases Nat.lt_or_ge j k with h | h
          · exact hA.out j h
          · have : j = k := by omega
            subst this; rw [hx]; exact hn
        obtain ⟨x, hx⟩ : ∃ x, bt s k = x := ⟨_, rfl⟩
        rw [hx] at q
        have HX := Lib.hid hx
        clear hx HC hA
        by_cases h1 : x < 97
        · go_wp2
          go_ret
          exact ⟨by rw [decide_eq_false (HB.out x HX.out (fun h => by have := h.1; omega))]; rfl, HF.out⟩
        · by_cases h2 : 122 < x
          · go_wp2
            go_ret
            exact ⟨by rw [decide_eq_false (HB.out x HX.out (fun h => by have := h.2; omega))]; rfl, HF.out⟩
          · have HL : Hid (low x) := ⟨by omega, by omega⟩
            go_wp2
            go_round
            case rel => exact ⟨k + 1, by omega, by go_num, HG.out x HX.out HL.out⟩
            case measure => (simp [intOf]; try omega)
      · have n1 : ¬ (k : Int) < s.size := by omega
        have HN := Lib.hid (name_of hw (fun j hj => hA.out j (by omega)))
        clear hA HC
        go_wp2
        go_ret
        exact ⟨by rw [decide_eq_true HN.out]; rfl, HF.out⟩
  · have HW := Lib.hid (within_is s.size 1 4 false w (decide_eq_false hw))
    have hn : ¬ Pa.IsName s.data.toList := fun h => hw (by have := h.1; have := h.2.1; rw [← Lib.size_eq] at *; omega)
    go_enter Tryd.func37, Tryd.ntmps37
    go_wp2_with (go_at_call 49; (with_reducible refine useC HW.out ?_); rintro e w ⟨rfl, rfl⟩)
    go_ret
    exact ⟨by rw [decide_eq_false hn]; rfl, Fr.refl _ _⟩
end Go.Proofs.YtnglhfeialomgaaDoor
