/- The contract of mode.Show: the letters of a mode. -/
import Derived.Test.YtiadpgkephokdaaDoorMoRep
import Derived.Test.YtiadpgkephokdaaDoorMoPlain
import Derived.Laws.IdiomStrings
import Derived.Handy
namespace Go.Proofs.YtiadpgkephokdaaDoor
open Go.RowKit

namespace Mo
/-- The letters, by their places; the byte of a mode at a place; the first k of them, dashes behind. -/
def lett (j : Nat) : UInt8 := [114, 119, 120, 114, 119, 120, 114, 119, 120].getD j 0
def bit (m j : Nat) : Bool := decide (m / 2 ^ (8 - j) % 2 = 1)
def shB (m j : Nat) : UInt8 := if bit m j = true then lett j else 45
def row (m k j : Nat) : UInt8 := if j < k then shB m j else 45
def showL (m : Nat) : List UInt8 := (List.range 9).map (shB m)
end Mo
/-- A row of bytes that may be written, nine of them known. -/
def ByRow (w : World) (g : Nat) (f : Nat → UInt8) : Prop := ∃ cs fr, w.heap[g]? = some (.cells cs 5 fr) ∧ 9 ≤ fr.1 ∧ ∀ j, j < 9 → cs[j]? = some (.int .u8 ((f j).toNat : Int))
theorem ByRow.cell {w : World} {g : Nat} {f : Nat → UInt8} (h : ByRow w g f) {j : Nat} (hj : j < 9) : w.cell? ⟨g, j, none⟩ = some (.int .u8 ((f j).toNat : Int)) ∧ w.frozen? ⟨g, j, none⟩ = false := by
  obtain ⟨cs, ⟨lo, hi⟩, h1, h2, h3⟩ := h
  refine ⟨by rw [cell_of_row w g j cs _ _ h1, h3 j hj], ?_⟩
  simp only [World.frozen?, h1]
  have : ¬ lo ≤ j := by simp at h2; omega
  simp [this]
theorem ByRow.put {w : World} {g : Nat} {f : Nat → UInt8} (h : ByRow w g f) (k : Nat) (x : UInt8) : ByRow (w.setCell ⟨g, k, none⟩ (.int .u8 (x.toNat : Int))) g (fun j => if j = k then x else f j) := by
  obtain ⟨cs, fr, h1, h2, h3⟩ := h
  refine ⟨cs.setIfInBounds k (.int .u8 (x.toNat : Int)), fr, by simp [World.setCell, Array.getElem?_modify, h1], h2, fun j hj => ?_⟩
  rw [Array.getElem?_setIfInBounds]
  by_cases e : k = j
  · subst e
    have : k < cs.size := by have := h3 k hj; exact (Array.getElem?_eq_some_iff.1 this).1
    simp [this]
  · rw [if_neg e, h3 j hj]
    simp [Ne.symm e]
theorem ByRow.cong {w : World} {g : Nat} {f f' : Nat → UInt8} (h : ByRow w g f) (he : ∀ j, j < 9 → f j = f' j) : ByRow w g f' := by
  obtain ⟨cs, fr, h1, h2, h3⟩ := h
  exact ⟨cs, fr, h1, h2, fun j hj => by rw [h3 j hj, he j hj]⟩
theorem byRow_new (w : World) (cap : Nat) : ByRow (w.alloc (.cells (bytesRow dashes cap) 5 ((bytesRow dashes cap).size, (bytesRow dashes cap).size + 1))) w.heap.size (fun _ => 45) := by
  refine ⟨_, _, heap_alloc_new w _, ?_, fun j hj => ?_⟩
  · show 9 ≤ (bytesRow dashes cap).size
    simp [bytesRow, dashes]
  · unfold bytesRow
    rw [Array.getElem?_append_left (by simpa [dashes] using hj)]
    match j, hj with
    | 0, _ => simp [dashes]
    | 1, _ => simp [dashes]
    | 2, _ => simp [dashes]
    | 3, _ => simp [dashes]
    | 4, _ => simp [dashes]
    | 5, _ => simp [dashes]
    | 6, _ => simp [dashes]
    | 7, _ => simp [dashes]
    | 8, _ => simp [dashes]
namespace Mo
theorem row_yes (m k : Nat) (h : bit m k = true) : ∀ j, j < 9 → (if j = k then lett k else row m k j) = row m (k + 1) j := by
  intro j _
  unfold row
  by_cases e : j = k
  · subst e
    rw [if_pos rfl, if_pos (by omega)]
    unfold shB; rw [if_pos h]
  · rw [if_neg e]
    by_cases h2 : j < k
    · rw [if_pos h2, if_pos (by omega)]
    · rw [if_neg h2, if_neg (by omega)]
theorem row_no (m k : Nat) (h : bit m k = false) : ∀ j, j < 9 → row m k j = row m (k + 1) j := by
  intro j _
  unfold row
  by_cases e : j = k
  · subst e
    rw [if_neg (by omega), if_pos (by omega)]
    unfold shB; rw [if_neg (by rw [h]; decide)]
  · by_cases h2 : j < k
    · rw [if_pos h2, if_pos (by omega)]
    · rw [if_neg h2, if_neg (by omega)]
theorem showL_at (m j : Nat) (h : j < (showL m).length) : (showL m)[j]'h = shB m j := by simp only [showL, List.getElem_map, List.getElem_range]
theorem lett_at {k : Nat} (h : k < 9) : (⟨#[114, 119, 120, 114, 119, 120, 114, 119, 120]⟩ : ByteArray)[k]'h = lett k := by
  match k, h with
  | 0, _ => rfl
  | 1, _ => rfl
  | 2, _ => rfl
  | 3, _ => rfl
  | 4, _ => rfl
  | 5, _ => rfl
  | 6, _ => rfl
  | 7, _ => rfl
  | 8, _ => rfl
theorem bit_and (m k : Nat) (hm : m ≤ 511) : bits .and .i64 ((m : Int) / 2 ^ (8 - k)) 1 = if bit m k = true then 1 else 0 := by
  have e1 : (m : Int) / 2 ^ (8 - k) = ((m / 2 ^ (8 - k) : Nat) : Int) := by
    simp
  have hle : m / 2 ^ (8 - k) ≤ m := Nat.div_le_self _ _
  rw [e1, show (1 : Int) = ((1 : Nat) : Int) from rfl, band _ _ (by omega) (by decide), Nat.and_one_is_mod]
  unfold bit
  by_cases h : m / 2 ^ (8 - k) % 2 = 1
  · rw [if_pos (by simpa using h), h]
  · rw [if_neg (by simpa using h)]
    have : m / 2 ^ (8 - k) % 2 = 0 := by omega
    rw [this]; rfl
end Mo
set_option maxRecDepth 100000 in
set_option maxHeartbeats 4000000 in
theorem mo_Show_ok (w : World) (m : Nat) (hm : m ≤ 511) :
    Calls Tryd.prog 12 #[.int .i64 m] w fun e w' => e = .returned (.tuple #[.string ⟨(Mo.showL m).toArray⟩, .nilIface]) ∧ Fr [] w w' := by
  have e1 : decide ((0 : Int) ≤ m ∧ (m : Int) ≤ 511) = true := decide_eq_true (by omega)
  have hcv : ∀ W : World, (convert 9 64 (.string dashes)).run Tryd.prog W = .ok (.slice (some ⟨W.heap.size, 0, none⟩) 9 (grownCap W 9 0 5)) (W.drew.alloc (.cells (bytesRow dashes (grownCap W 9 0 5)) 5 ((bytesRow dashes (grownCap W 9 0 5)).size, (bytesRow dashes (grownCap W 9 0 5)).size + 1))) :=
    fun W => run_bytes_of_string (P := Tryd.prog) W 9 64 5 dashes Tryd.underlying9 Tryd.underlying64 Tryd.underlying5
  have hm2 : (m : Int) ≤ 511 := by omega
  go_enter Tryd.func12, Tryd.ntmps12
  go_wp2_with (first
    | (go_at_call 29; (with_reducible refine useC (within_is _ _ _ true _ e1) ?_); rintro e w2 ⟨rfl, rfl⟩)
    | (go_at_call 34; (with_reducible refine useC (rep_dash _) ?_); rintro e w3 ⟨rfl, hf⟩; have HF2 := Lib.hid hf; clear hf))
  have hbr : ByRow ((w3.alloc (.cells (bytesRow dashes (grownCap w3 9 0 5)) 5 ((bytesRow dashes (grownCap w3 9 0 5)).size, (bytesRow dashes (grownCap w3 9 0 5)).size + 1))).drew) w3.heap.size (fun _ => 45) := byRow_new w3 (grownCap w3 9 0 5)
  have hF3 : Fr [] w2 ((w3.alloc (.cells (bytesRow dashes (grownCap w3 9 0 5)) 5 ((bytesRow dashes (grownCap w3 9 0 5)).size, (bytesRow dashes (grownCap w3 9 0 5)).size + 1))).drew) := (HF2.out.alloc _).drew
  have HBR := Lib.hid hbr
  have HF3 := Lib.hid hF3
  clear hbr hF3
  revert HBR
  revert HF3
  generalize ((w3.alloc (.cells (bytesRow dashes (grownCap w3 9 0 5)) 5 ((bytesRow dashes (grownCap w3 9 0 5)).size, (bytesRow dashes (grownCap w3 9 0 5)).size + 1))).drew) = w4
  generalize hgB : w3.heap.size = g
  generalize grownCap w3 9 0 5 = cap
  intro HF3 HBR
  have HG : Hid (w2.heap.size ≤ g) := by show _ ≤ _; rw [← hgB]; exact HF2.out.size
  clear hgB
  go_loopw [14] (fun i wr => ∃ k : Nat, k ≤ 9 ∧ i = .int .i64 k ∧ Hid (ByRow wr g (Mo.row m k)) ∧ Hid (Fr [] w2 wr)) (fun i _ => 9 - (intOf i).toNat)
  case atStart => exact ⟨0, Nat.zero_le _, rfl, HBR.out.cong (fun j _ => by unfold Mo.row; rw [if_neg (by omega)]), HF3⟩
  case round =>
    obtain ⟨k, hk, rfl, hR, hF⟩ := hrel
    by_cases hlt : k < 9
    · have hk9 : (k : Int) < 9 := by omega
      have hk0 : (0 : Int) ≤ k := by omega
      obtain ⟨c0, c1⟩ := hR.out.cell hlt
      have HBA := Lib.hid (Mo.bit_and m k hm)
      cases hb : Mo.bit m k with
      | true =>
        have hT : (bits .and .i64 ((m : Int) / 2 ^ (8 - k)) 1 == 1) = true := by rw [HBA.out, hb]; rfl
        have HY := Lib.hid (Mo.row_yes m k hb)
        clear hb HBA
        go_wp2
        go_roundw
        case rel => exact ⟨k + 1, by omega, by go_num, (hR.out.put k _).cong (fun j hj => by rw [← HY.out j hj, Mo.lett_at hlt]), hF.out.setCell (.inr HG.out) _⟩
        case measure => simp [intOf]; omega
      | false =>
        have hT : (bits .and .i64 ((m : Int) / 2 ^ (8 - k)) 1 == 1) = false := by rw [HBA.out, hb]; rfl
        have HY := Lib.hid (Mo.row_no m k hb)
        clear hb HBA
        go_wp2
        go_roundw
        case rel => exact ⟨k + 1, by omega, by go_num, hR.out.cong HY.out, hF⟩
        case measure => simp [intOf]; omega
    · have hk' : k = 9 := by omega
      rw [hk'] at hR
      clear hk'
      have hcs := run_convert_bytes_back (P := Tryd.prog) wr 64 9 5 ⟨g, 0, none⟩ cap (Mo.showL m) Tryd.underlying64 Tryd.underlying5 Tryd.underlying9 (fun j hj => by
        have hj9 : j < 9 := by simpa [Mo.showL] using hj
        rw [Addr.add_lit, Nat.zero_add, (hR.out.cell hj9).1]
        rw [Mo.showL_at]
        unfold Mo.row
        rw [if_pos hj9])
      rw [show (Mo.showL m).length = 9 by simp [Mo.showL]] at hcs
      go_wp2
      go_ret2
      exact ⟨rfl, hF.out⟩
theorem mo_Show_bad (w : World) (m : Int) (hm : ¬ (0 ≤ m ∧ m ≤ 511)) :
    Calls Tryd.prog 12 #[.int .i64 m] w fun e w' => e = .returned (.tuple #[.string ⟨#[]⟩, .iface 61 (.int .i64 1)]) ∧ Fr [] w w' := by
  have e1 := decide_eq_false hm
  clear hm
  go_enter Tryd.func12, Tryd.ntmps12
  go_wp2_with (go_at_call 29; (with_reducible refine useC (within_is _ _ _ false _ e1) ?_); rintro e w2 ⟨rfl, rfl⟩)
  go_ret2
  exact ⟨rfl, Fr.refl _ _⟩
end Go.Proofs.YtiadpgkephokdaaDoor
