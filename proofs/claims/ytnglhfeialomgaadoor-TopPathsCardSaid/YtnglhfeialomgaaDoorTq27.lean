/- Lists of lists of texts; texts that lie as they lay. -/
import Derived.Shelf.Lay
import Derived.Shelf.Strings.OnBuilder
import Derived.Test.YtnglhfeialomgaaDoorTq04
import Derived.Test.YtnglhfeialomgaaDoorTq11
import Derived.Test.YtnglhfeialomgaaDoorTq23
namespace Go.Proofs.YtnglhfeialomgaaDoor
open Go.RowKit

/-- A list of lists of texts. -/
def RwT (w : World) (v : Value) (ls : List (List (List UInt8))) : Prop := ∃ A g o c, v = .slice A ls.length c ∧ ls.length ≤ 9223372036854775807 ∧ (0 < ls.length → A = some ⟨g, o, none⟩) ∧ ∀ i (hi : i < ls.length), ∃ u gi, w.cell? ⟨g, o + i, none⟩ = some u ∧ SlR strE w u gi ls[i]
theorem slR_fr {w w' : World} {v : Value} {g : Nat} {l : List (List UInt8)} (h : SlR strE w v g l) (hf : Fr [] w w') : SlR strE w' v g l := by
  rcases h with h | ⟨a, c, e, h1, h2, h3⟩
  · exact .inl h
  · exact .inr ⟨a, c, e, h1, h2, fun i hi r hr => by
      have h4 := h3 i hi r hr
      have h5 : ∃ x, w.cell? ⟨g, a + i * strE.k + r, none⟩ = some x := by
        rw [h4]
        have hr : r < 1 := hr
        obtain rfl : r = 0 := by omega
        exact ⟨_, rfl⟩
      obtain ⟨x, hx⟩ := h5
      rw [← h4, hx]
      exact hf.cell hx (by simp)⟩
end Go.Proofs.YtnglhfeialomgaaDoor
/- strings.Join off the shelf. -/
namespace Go.Proofs
open Go.Shelf
shelf_lay Lays.n156 Nm 156 at Tryd as Tryd.lays156
end Go.Proofs

/- path.Clean. -/
namespace Go.Proofs
open Go.Shelf
theorem Tryd.extra156 : Builder.Extra Tryd.prog Tryd.lays156_ren where
  sizeBuilder := by kernel_rfl
  liesBuilder := by kernel_rfl
  t5 := Tryd.underlying5
  a5 := Tryd.isAgg5
  z5 := Tryd.sizeOf5
  v5 := Tryd.zeroValue5
  infoByte := by kernel_rfl
  cellsByte := by kernel_rfl
  sizeByte := by kernel_rfl
  neB5 := by decide
namespace YtnglhfeialomgaaDoor
open Go.RowKit Go.Lib

def Pa.clean (s : List UInt8) : List UInt8 × Int := if (Pa.parts s).2 = 0 then (Pa.shown (Pa.parts s).1, 0) else ([], (Pa.parts s).2)
theorem join_mk (l : List (List UInt8)) : (l.map Pa.mk).map (·.data.toList) = l := by
  rw [List.map_map]
  conv => rhs; rw [← List.map_id l]
  exact List.map_congr_left (fun a _ => Pa.mk_list a)
theorem pa_join (w : World) (v : Value) (g : Nat) (l : List (List UInt8)) (hs : SlR strE w v g l) (hl : (Pa.shown l).length ≤ 1000) :
    Calls Tryd.prog 40 #[v, .string ⟨#[47]⟩] w fun e w' => e = .returned (.string (Pa.mk (Lib.join l [47]))) ∧ Fr [] w w' := by
  rcases hs with ⟨rfl, A, c, rfl⟩ | ⟨o, c, rfl, h1, h2, h3⟩
  · exact (Any.strings_Join_none Tryd.lays156 Tryd.extra156 A c ⟨#[47]⟩ w).mono fun e w' ⟨he, hw⟩ => ⟨he, by subst hw; exact Fr.refl _ _⟩
  · by_cases h0 : l = []
    · subst h0
      exact (Any.strings_Join_none Tryd.lays156 Tryd.extra156 _ c ⟨#[47]⟩ w).mono fun e w' ⟨he, hw⟩ => ⟨he, by subst hw; exact Fr.refl _ _⟩
    · have hcells : ∀ (j : Nat) x, (l.map Pa.mk)[j]? = some x → w.cell? ⟨g, o + j, none⟩ = some (.string x) := fun j x hx => by
        rw [List.getElem?_map] at hx
        obtain ⟨y, hy, rfl⟩ := Option.map_eq_some_iff.1 hx
        obtain ⟨hj, rfl⟩ := List.getElem?_eq_some_iff.1 hy
        have := h3 j hj 0 (by decide)
        simpa [strE] using this
      have hpos : 0 < l.length := List.length_pos_iff.2 h0
      have hg : g < w.heap.size := block_lt_of_cell (hcells 0 (Pa.mk l[0]) (by simp [hpos]))
      have hlen : (Lib.join ((l.map Pa.mk).map (·.data.toList)) (⟨#[47]⟩ : ByteArray).data.toList).length ≤ 140737488355328 := by
        rw [join_mk]
        have := Pa.join_shown l
        have := congrArg List.length this
        simp only [List.length_cons] at this
        show (Lib.join l [47]).length ≤ _
        omega
      have hn : l.length ≤ 1000 := by
        have h4 := Pa.len_long l
        have h5 := Pa.flat_len l
        unfold Pa.shown at hl
        rw [if_neg h0] at hl
        omega
      have := Any.strings_Join Tryd.lays156 Tryd.extra156 g o c (l.map Pa.mk) ⟨#[47]⟩ w hcells hg (by rw [List.length_map]; omega) (by rw [List.length_map]; exact h1) hlen
      rw [List.length_map, join_mk] at this
      exact this.mono fun e w' ⟨he, hb⟩ => ⟨he, Fr.of_below hb⟩
set_option maxRecDepth 100000 in
theorem pa_Clean (s : ByteArray) (w : World) :
    Calls Tryd.prog 23 #[.string s] w fun e w' => e = .returned (.tuple #[.string (Pa.mk (Pa.clean s.data.toList).1), errV (Pa.clean s.data.toList).2]) ∧ Fr [] w w' := by
  have HP := Lib.hid (fun W => pa_Parts s W)
  have hl : (Pa.parts s.data.toList).2 = 0 → (Pa.shown (Pa.parts s.data.toList).1).length ≤ 1000 := fun h => by
    have hp : Pa.parts s.data.toList = ((Pa.parts s.data.toList).1, 0) := by rw [← h]
    have h1 := Pa.shown_le hp
    have h2 := (Pa.parts_ok hp).1
    omega
  unfold PaP at HP
  unfold Pa.clean
  generalize Pa.parts s.data.toList = p at *
  obtain ⟨l, c⟩ := p
  dsimp only at *
  go_enter Tryd.func23, Tryd.ntmps23
  go_wp2_with fail
  (refine useC (HP.out w) ?_); rintro e w1 ⟨v, g, rfl, hs, hf⟩
  have HS := Lib.hid hs
  have HF := Lib.hid hf
  clear hs hf HP
  by_cases hc : c = 0
  · subst hc
    rw [show errV 0 = .nilIface from rfl]
    have HJ := Lib.hid (pa_join w1 v g l HS.out (hl rfl))
    have hz : (Pa.mk (Lib.join l [47])).size ≤ 1000 := by
      rw [Pa.mk_size]
      have h1 := congrArg List.length (Pa.join_shown l)
      have h2 := hl rfl
      simp only [List.length_cons] at h1
      omega
    clear hl
    go_wp2_with (go_at_call 40; (with_reducible refine useC HJ.out ?_); rintro e w2 ⟨rfl, hf⟩; have HF2 := Lib.hid hf; clear hf)
    go_ret2
    refine ⟨?_, HF.out.trans HF2.out⟩
    have e1 : Pa.mk (Pa.shown l) = (⟨#[47]⟩ : ByteArray) ++ Pa.mk (Lib.join l [47]) := by
      rw [← Pa.join_shown]
      exact (mk_append [47] _).symm
    rw [e1]
    rfl
  · rw [errV_no hc]
    clear hl
    have HC := Lib.hid hc
    clear hc
    go_wp2
    go_ret2
    refine ⟨?_, HF.out⟩
    rw [errV_no HC.out]
    rfl
end YtnglhfeialomgaaDoor
end Go.Proofs
