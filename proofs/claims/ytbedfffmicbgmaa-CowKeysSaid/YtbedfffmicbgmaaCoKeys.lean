/- The contract of package cow: Keys. -/
import Derived.Test.YtbedfffmicbgmaaCoEach
namespace Go.Proofs.Ytbedfffmicbgmaa
open Go.RowKit

/-- The first i keys. -/
def Co.keyTo (T : Ct) (i : Nat) : List Int := ((Co.nodes T).take i).map (·.2)
theorem Co.keyTo_len {T : Ct} {i : Nat} (h : i ≤ (Co.nodes T).length) : (Co.keyTo T i).length = i := by unfold Co.keyTo; simp; omega
theorem Co.keyTo_all (T : Ct) : Co.keyTo T (Co.nodes T).length = Co.keys T := by unfold Co.keyTo Co.keys; rw [List.take_length]
theorem Co.keyTo_succ {T : Ct} {i : Nat} (h : i < (Co.nodes T).length) : Co.keyTo T (i + 1) = Co.keyTo T i ++ [((Co.nodes T)[i]).2] := by
  unfold Co.keyTo
  rw [List.take_add_one, List.map_append, List.getElem?_eq_getElem h]
  rfl
/-- Behind i nodes. -/
structure KeysJ (T : Ct) (w0 : World) (vb i : Nat) (w : World) : Prop where
  box : ∃ A c, w.heap[vb]? = some (.cells #[.slice A i c] 30 (0, 0)) ∧ Own w (vb + 1) 3 (.slice A i c) (Co.keyTo T i)
  fr : Fr [] w0 w
  ge : w0.heap.size ≤ vb
  le : i ≤ (Co.nodes T).length
  t0 : CoIn w0 T
set_option maxRecDepth 100000 in
theorem co_keys1 (T : Ct) (w0 : World) (vb : Nat) (hN : (Co.nodes T).length ≤ 900000) : ∀ i (hi : i < (Co.nodes T).length) w, KeysJ T w0 vb i w →
    Calls Try.prog 21 #[.pointer (some ⟨((Co.nodes T)[i]).1, 0, none⟩), .pointer (some ⟨vb, 0, none⟩)] w fun e w' => e = .returned (.tuple #[]) ∧ KeysJ T w0 vb (i + 1) w' := by
  intro i hi w hJ
  obtain ⟨A, c, hb, ho⟩ := hJ.box
  have hk := ((hJ.t0.step hJ.fr).key_at _ (List.getElem_mem hi)).1
  have c0 := cell_of_row w vb 0 _ _ _ hb
  have c0 : w.cell? ⟨vb, 0, none⟩ = some (.slice A i c) := by rw [c0]; rfl
  have f0 := free_block hb 0 none
  have HO := Lib.hid ho
  have HB := Lib.hid hb
  have hll : (Co.keyTo T i).length < 1000000 := by rw [Co.keyTo_len hJ.le]; omega
  have HS := Lib.hid (Co.keyTo_succ hi)
  have HL := Lib.hid (Co.keyTo_len (show i + 1 ≤ (Co.nodes T).length from hi))
  have hvb := lt_of_heap hb
  have HQ := Lib.hid (fun W (hW : Fr [] w W) => And.intro (hW.cell c0 (by simp)) (hW.cell hk (by simp)))
  have HJ := Lib.hid hJ
  generalize (Co.nodes T)[i] = p at *
  obtain ⟨b, k⟩ := p
  dsimp only at hk HS HQ
  clear hb ho hJ
  go_enter Try.func21, Try.ntmps21
  go_wp2_with fail
  (refine wp_region_mix (Fr [] w ·) 6 [(true, 0), (true, 1), (true, 2), (true, 3), (true, 4), (false, 5)] (by kernel_rfl) (by kernel_rfl) ((Fr.refl _ _).drew) ?_; simp only [pickOps, List.map_cons, List.map_nil, List.getD_cons_zero, List.getD_cons_succ, List.drop_succ_cons, List.drop_zero])
  (iterate 5 (first | (refine wpMix_take (v := ?_) (by rfl) ?_ ?_; rotate_left; (focus (intro W hW; obtain ⟨c0, hk⟩ := HQ.out W hW; go_simp; (try with_reducible rfl); done)); try simp only [Act.put, List.setIfInBounds_toArray, List.set_cons_zero, List.set_cons_succ]) | (refine wpMix_leave (by rfl) ?_; try simp only [Act.put, List.setIfInBounds_toArray, List.set_cons_zero, List.set_cons_succ])))
  refine wpMix_walk ?_
  go_wp2
  refine MixQ.mk (((Fr.refl [] w).drew).alloc _) ?_
  refine wpMix_nil ?_
  go_wp2_with (at_builtin; refine wpList_push_int (wr := w.drew) Try.intT rfl _ _ rfl (vb + 1) _ _ rfl (HO.out.kept ((Fr.refl [] w).drew) (by simp)) rfl hll (by show vb + 1 ≤ w.heap.size; omega) ?_; intro v' w2 h1 h2 h3; rw [← HS.out] at h1; obtain ⟨_, h5⟩ := h1; rcases h5 with ⟨rfl, h6⟩ | ⟨g', cap', cur', rfl, h5⟩; (rw [HL.out] at h6; exact absurd h6 (by omega)); have hbb := (h3.block vb (by omega)).trans HB.out; have cc := cell_of_row w2 vb 0 _ _ _ hbb; have cc : w2.cell? ⟨vb, 0, none⟩ = some (.slice A i c) := (by rw [cc]; rfl); have ff := free_block hbb 0 none; rw [HL.out] at h5 ⊢; have H5 := Lib.hid h5; have HBB := Lib.hid hbb; have HFF := Lib.hid ((HJ.out.fr.drew).below_step h3 (by have := HJ.out.ge; omega)); clear h5 h2 h3 hbb c0 f0)
  go_returns
  obtain ⟨q1, q2, q3, q4, q5, q6⟩ := H5.out
  have hS : Fr [vb] w2 (w2.setCell ⟨vb, 0, none⟩ (.slice (some ⟨g', 0, none⟩) (i + 1) cap')) := (Fr.refl _ _).setCell (.inl (by simp)) _
  exact ⟨rfl, ⟨⟨_, _, set_block HBB.out _, by unfold Own; rw [HL.out]; exact ⟨by simp [HL.out], .inr ⟨g', cap', cur', rfl, q1, hS.get q2 (by simp; omega), q3, q4, q5, q6⟩⟩⟩, HFF.out.step hS (fun x hx => .inr (by simp only [List.mem_singleton] at hx; subst hx; exact HJ.out.ge)), HJ.out.ge, hi, HJ.out.t0⟩⟩
theorem keysJ_start (T : Ct) (w : World) (hT : CoIn w T) : KeysJ T w w.heap.size 0 (w.alloc (.cells #[.slice none 0 0] 30)) :=
  ⟨⟨none, 0, heap_alloc_new w _, Own.nil _ _ _⟩, (Fr.refl _ _).alloc _, Nat.le_refl _, Nat.zero_le _, hT⟩
/-- What Keys hands back of a version that is there. -/
def CoKeysA (T : Ct) (w : World) (e : Ending) (w' : World) : Prop := ∃ A c, e = .returned (.tuple #[.slice A (Co.keys T).length c, .nilIface]) ∧ Own w' (w.heap.size + 1) 3 (.slice A (Co.keys T).length c) (Co.keys T) ∧ Fr [] w w'
set_option maxRecDepth 100000 in
theorem co_keys (w : World) (B sb : Nat) (st : List Ct) (v : Int) (hS : CoS B w sb st) (hv : Co.has st v) :
    Calls Try.prog 9 #[.pointer (some ⟨sb, 0, none⟩), .int .i64 v] w (CoKeysA (Co.tree st v) w) := by
  have HRT := Lib.hid (co_root w B sb st v hS)
  have hr : coRoot st v = .tuple #[(Co.tree st v).ptr, .nilIface] := if_pos hv
  rw [hr] at HRT
  have hin := hS.ins _ (Co.tree_mem hv)
  have hfew := hS.ok.few _ (Co.tree_mem hv)
  have hl := hS.ok.len
  have hN : (Co.nodes (Co.tree st v)).length ≤ 900000 := by omega
  generalize Co.tree st v = T at *
  have HEA := Lib.hid (fun W (h : KeysJ T w w.heap.size 0 W) => each_keys (.pointer (some ⟨w.heap.size, 0, none⟩)) (Co.nodes T) (KeysJ T w w.heap.size) (co_keys1 T w w.heap.size hN) T [] [] W (by simp) (fun i W hJ => hJ.t0.step hJ.fr) h)
  have HST := Lib.hid (keysJ_start T w hin)
  obtain ⟨u, hu⟩ := T.ptr_form
  rw [hu] at HRT HEA
  clear hr hS hv hin hfew hl hN hu
  go_enter Try.func9, Try.ntmps9
  go_wp2_with (first
    | (go_at_call 17; (with_reducible refine useC HRT.out ?_); rintro e w0 ⟨rfl, rfl⟩)
    | (go_at_call 20; (with_reducible refine useC (HEA.out _ HST.out) ?_); rintro e w1 ⟨rfl, hj⟩; rw [List.length_nil, Nat.zero_add] at hj; obtain ⟨A, c, hb, ho⟩ := hj.box; have c0 := cell_of_row w1 w0.heap.size 0 _ _ _ hb; have c0 : w1.cell? ⟨w0.heap.size, 0, none⟩ = some (.slice A (Co.nodes T).length c) := (by rw [c0]; rfl); have HO := Lib.hid ho; have HF := Lib.hid hj.fr; clear hb ho hj))
  go_ret2
  rw [Co.keyTo_all] at HO
  exact ⟨A, c, by rw [Co.len_keys]; rfl, by rw [Co.len_keys]; exact HO.out, HF.out⟩
theorem co_keys_bad (w : World) (B sb : Nat) (st : List Ct) (v : Int) (hS : CoS B w sb st) (hv : ¬ Co.has st v) :
    Calls Try.prog 9 #[.pointer (some ⟨sb, 0, none⟩), .int .i64 v] w fun e w' => e = .returned (.tuple #[.slice none 0 0, .iface 45 (.int .i64 1)]) ∧ w' = w := by
  have HRT := Lib.hid (co_root w B sb st v hS)
  have hr : coRoot st v = .tuple #[.pointer none, .iface 45 (.int .i64 1)] := if_neg hv
  rw [hr] at HRT
  clear hr hS hv
  go_enter Try.func9, Try.ntmps9
  go_wp2_with (go_at_call 17; (with_reducible refine useC HRT.out ?_); rintro e w ⟨rfl, rfl⟩)
  go_ret2
  exact ⟨rfl, rfl⟩
end Go.Proofs.Ytbedfffmicbgmaa
