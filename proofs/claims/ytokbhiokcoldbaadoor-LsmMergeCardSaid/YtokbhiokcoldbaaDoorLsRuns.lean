/- Runs of package lsm. -/
import Derived.Test.YtokbhiokcoldbaaDoorLsMerge
import Derived.Test.YtokbhiokcoldbaaDoorSpreadI
namespace Go.Proofs.YtokbhiokcoldbaaDoor
open Go.RowKit

namespace Ls
/-- How many entries each run has. -/
def lens (m : M) : List Int := m.runs.map fun l => (l.length : Int)
end Ls
/-- What the rounds know of a row of integers that grows. -/
structure LsRl (w wr : World) (u : Value) (l : List Int) : Prop where
  own : Own wr w.heap.size 3 u l
  fr : Fr [] w wr
/-- The call hands back n and a row of integers. -/
def LsRn (n : Int) (xs : List Int) (w : World) (e : Ending) (w' : World) : Prop := ∃ v g, e = .returned (.tuple #[.int .i64 n, v]) ∧ (w.heap.size ≤ g ∨ xs = []) ∧ Sl w' v g xs ∧ Fr [] w w'
theorem LsS.runAt {P : Nat → Prop} {w : World} {b : Nat} {vm vr : Value} {vs : List SlV} {m : Ls.M} (h : LsS P w b vm vr vs m) {k : Nat} (hk : k < vs.length) : ∃ g c A' c', vr = .slice (some ⟨g, 0, none⟩) vs.length c ∧ w.cell? ⟨g, k, none⟩ = some (.slice A' (m.runs.getD k []).length c') ∧ OwnR entE w 0 117 (.slice A' (m.runs.getD k []).length c') (m.runs.getD k []) := by
  obtain ⟨g, c, e, _, hc⟩ := own_cells1 h.runs (by omega)
  have h1 := (h.each k hk).row
  obtain ⟨A', c', he⟩ := h1.form
  refine ⟨g, c, A', c', e, ?_, by rw [← he]; exact h1⟩
  rw [hc k hk, he]
set_option maxRecDepth 100000 in
set_option maxHeartbeats 2000000 in
theorem ls_Runs (w : World) (P : Nat → Prop) (b : Nat) (m : Ls.M) (h : LsF P w b m) (hO : Ls.OK m) :
    Calls Tryd.prog 39 #[.pointer (some ⟨b, 0, none⟩)] w (LsRn m.mem.length (Ls.lens m) w) := by
  obtain ⟨vm, vr, vs, hS⟩ := h
  obtain ⟨A, c, rfl⟩ := hS.mem.form
  obtain ⟨A2, c2, hvr⟩ := hS.runs.form
  have hvl := hS.len
  have hOl := hO.len
  have hOm := hO.many
  have HCE : Hid (∀ W, Fr [] w W → W.cell? ⟨b, 0, none⟩ = some (.slice A m.mem.length c) ∧ W.cell? ⟨b, 1, none⟩ = some (.slice A2 vs.length c2)) := fun W hW => by
    have hc := (hS.keep hW).cells
    exact ⟨hc.1, by rw [hc.2.1, hvr]⟩
  have HRUN : Hid (∀ W, Fr [] w W → ∀ k, k < vs.length → ∃ g A' c', A2 = some ⟨g, 0, none⟩ ∧ W.cell? ⟨g, k, none⟩ = some (.slice A' (m.runs.getD k []).length c')) := fun W hW k hk => by
    obtain ⟨g, c, A', c', e, h1, _⟩ := (hS.keep hW).runAt hk
    rw [hvr] at e
    injection e with e1 _ _
    exact ⟨g, A', c', e1, h1⟩
  have HLN : Hid (∀ k, k < vs.length → (Ls.lens m).take (k + 1) = (Ls.lens m).take k ++ [((m.runs.getD k []).length : Int)]) := fun k hk => by
    unfold Ls.lens
    rw [List.take_add_one, List.getElem?_eq_getElem (by rw [List.length_map]; omega)]
    simp [List.getD, List.getElem?_eq_getElem (show k < m.runs.length by omega)]
  have HLL : Hid ((Ls.lens m).length = vs.length) := by show _ = _; unfold Ls.lens; rw [List.length_map, hvl]
  have HI0 : Hid (LsRl w w (.slice none 0 0) ((Ls.lens m).take 0)) := ⟨Own.nil _ _ _, Fr.refl _ _⟩
  obtain ⟨-, q1⟩ := HCE.out w (Fr.refl _ _)
  have hv60 : vs.length ≤ 60 := by omega
  clear hS hO hvr hvl hOl hOm
  go_enter Tryd.func39, Tryd.ntmps39
  go_wp2_with fail
  go_loopw [3, 11] (fun u i wr => ∃ k : Nat, k ≤ vs.length ∧ i = .int .i64 k ∧ Hid (LsRl w wr u ((Ls.lens m).take k))) (fun _ i _ => vs.length - (intOf i).toNat)
  case atStart => exact ⟨0, Nat.zero_le _, rfl, HI0⟩
  case round =>
    clear HI0 q1
    obtain ⟨k, hk, rfl, hI⟩ := hrel
    by_cases hlt : k < vs.length
    · have kI : (k : Int) < vs.length := by omega
      have k0 : (0 : Int) ≤ k := by omega
      obtain ⟨g, A', c', rfl, q⟩ := HRUN.out wr hI.out.fr k hlt
      have HN2 := Lib.hid (HLN.out k hlt)
      generalize (m.runs.getD k []).length = L at *
      have hsz := hI.out.fr.size
      have hll : ((Ls.lens m).take k).length < 1000000 := by rw [List.length_take]; omega
      obtain ⟨A5, c5, hu⟩ := hI.out.own.form0
      subst hu
      go_wp2_with (at_builtin; refine wpList_push_int (wr := wr) Tryd.intT rfl _ _ rfl w.heap.size _ _ rfl hI.out.own rfl hll hsz ?_; intro v' w2 h1 _ h3; have HI2 : Hid (LsRl w w2 v' ((Ls.lens m).take k ++ [(L : Int)])) := ⟨h1, hI.out.fr.below_step h3 (Nat.le_refl _)⟩; clear h1 h3)
      go_roundw
      case rel => exact ⟨k + 1, by omega, by go_num, by show LsRl _ _ _ _; rw [HN2.out]; exact HI2.out⟩
      case measure => (simp [intOf]; try omega)
    · obtain rfl : k = vs.length := by omega
      have kI : ¬ (vs.length : Int) < vs.length := by omega
      obtain ⟨q0, -⟩ := HCE.out wr hI.out.fr
      have HI := Lib.hid hI.out
      rw [← HLL.out, List.take_length] at HI
      clear hI hlt
      go_wp2
      go_ret2
      obtain ⟨g, hg, hs⟩ := HI.out.own.sl
      exact ⟨_, g, rfl, hg, hs, HI.out.fr⟩
end Go.Proofs.YtokbhiokcoldbaaDoor
