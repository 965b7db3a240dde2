/- Trees of directories: spot, at. -/
import Derived.Deep.Cut
import Derived.Deep.CutRange
import Derived.Deep.CutBlock
import Derived.Test.YtnglhfeialomgaaDoorTq12
namespace Go.Proofs.YtnglhfeialomgaaDoor
open Go.RowKit

/-- What spot hands back. -/
def SpA (g : Tr.G) (s : List UInt8) (w : World) (e : Ending) (w' : World) : Prop := Fr [] w w' ∧ match Tr.spot g s with
  | .at_ d x => e = .returned (.tuple #[.pointer (some ⟨d, 0, none⟩), .string (Pa.mk x), .nilIface])
  | .err c => ∃ o t, c ≠ 0 ∧ e = .returned (.tuple #[.pointer o, .string t, errV c])
theorem SpA.err {g : Tr.G} {s : List UInt8} {w w' : World} {o : Option Addr} {t : ByteArray} {c : Int} (h : Tr.spot g s = .err c) (h0 : c ≠ 0) (hf : Fr [] w w') : SpA g s w (.returned (.tuple #[.pointer o, .string t, errV c])) w' := by
  refine ⟨hf, ?_⟩
  rw [h]
  exact ⟨o, t, h0, rfl⟩
theorem SpA.at_ {g : Tr.G} {s : List UInt8} {w w' : World} {d : Nat} {x : Tr.Nme} (h : Tr.spot g s = .at_ d x) (hf : Fr [] w w') : SpA g s w (.returned (.tuple #[.pointer (some ⟨d, 0, none⟩), .string (Pa.mk x), .nilIface])) w' := by
  refine ⟨hf, ?_⟩
  rw [h]
theorem slR_init {w : World} {A : Option Addr} {n c g : Nat} {P : List (List UInt8)} {x : List UInt8} (h : SlR strE w (.slice A n c) g (P ++ [x])) : SlR strE w (.slice A P.length c) g P := by
  rcases h with ⟨h, -⟩ | ⟨o, c', e, h1, h2, h3⟩
  · simp at h
  · injection e with e1 e2 e3
    subst e1 e3
    rw [List.length_append, List.length_singleton] at h1
    refine .inr ⟨o, c, rfl, by omega, h2, fun i hi r hr => ?_⟩
    have := h3 i (by rw [List.length_append]; omega) r hr
    rw [this, List.getElem_append_left hi]
theorem strs_last {w : World} {v : Value} {g : Nat} {P : List (List UInt8)} {x : List UInt8} (h : SlR strE w v g (P ++ [x])) : ∃ o c, v = .slice (some ⟨g, o, none⟩) (P.length + 1) c ∧ P.length + 1 ≤ c ∧ w.drew.cell? ⟨g, o + P.length, none⟩ = some (.string (Pa.mk x)) ∧ SlR strE w (.slice (some ⟨g, o, none⟩) P.length c) g P := by
  obtain ⟨A, o, c, rfl, -, h2, h3, h4⟩ := strs_cell h
  obtain rfl := h3 (by simp)
  have h5 := slR_init h
  have e : (P ++ [x]).length = P.length + 1 := by simp
  refine ⟨o, c, by rw [e], by omega, ?_, h5⟩
  have h1 := h4 P.length (by omega)
  rw [List.getElem_append_right (Nat.le_refl _)] at h1
  simpa using h1
theorem Tr.fnd_err_ne {g : Tr.G} : ∀ (p : List Tr.Nme) (n : Nat) (c : Int), Tr.fnd g n p = .err c → c ≠ 0
  | [], _, _, h => by cases h
  | x :: r, n, c, h => by
    rw [Tr.fnd_cons] at h
    cases hm : g.ent n with
    | none => rw [hm] at h; injection h with h; omega
    | some m =>
      rw [hm] at h
      have h : (match m x with | none => Tr.Rs.err 5 | some c => Tr.fnd g c r) = .err c := h
      cases hx : m x with
      | none => rw [hx] at h; injection h with h; omega
      | some d => rw [hx] at h; exact Tr.fnd_err_ne r d c h
set_option maxRecDepth 100000 in
set_option maxHeartbeats 4000000 in
theorem tr_spot (w : World) (tb : Nat) (g : Tr.G) (dom : Nat → Prop) (K : Nat) (s : ByteArray) (hS : TrS w tb g dom K) :
    Calls Tryd.prog 30 #[.pointer (some ⟨tb, 0, none⟩), .string s] w (SpA g s.data.toList w) := by
  have HS := Lib.hid hS
  have HPA := Lib.hid (pa_Parts s w)
  obtain ⟨st, hst⟩ : ∃ x, s.data.toList = x := ⟨_, rfl⟩
  rw [hst] at HPA ⊢
  clear hS hst
  have HSP : Hid (Tr.spot g st = if (Pa.parts st).2 = 0 then Tr.spotL g (Pa.parts st).1 else .err (Pa.parts st).2) := rfl
  have HNM : Hid ((Pa.parts st).2 = 0 → ∀ p ∈ (Pa.parts st).1, Pa.IsName p) := fun h0 => Pa.parts_names (s := st) (by rw [← h0])
  have HL8 : Hid ((Pa.parts st).2 = 0 → (Pa.parts st).1.length ≤ 8) := fun h0 => (Pa.parts_ok (s := st) (by rw [← h0])).2.2.2
  unfold PaP at HPA
  generalize (Pa.parts st).1 = l at *
  generalize (Pa.parts st).2 = c at *
  by_cases hc : c = 0
  · subst hc
    have hsp := HSP.out
    rw [if_pos rfl] at hsp
    have hnm := HNM.out rfl
    clear HSP HNM
    by_cases hl : l = []
    · subst hl
      have HR : Hid (Tr.spot g st = .err 7) := hsp.trans (if_pos rfl)
      clear hsp hnm
      go_enter Tryd.func30, Tryd.ntmps30
      go_wp2_with (go_at_call 19; (with_reducible refine useC HPA.out ?_); rintro e w1 ⟨v, gv, rfl, hv, hf⟩; obtain ⟨A, o, c, rfl, -⟩ := strs_cell hv; have HF := Lib.hid hf; clear hv hf; rw [show errV 0 = .nilIface from rfl])
      exact bodyPost_ret (v := .tuple #[.pointer none, .string { data := #[] }, .iface 57 (.int .i64 7)]) (by simp [results, Tryd.results30, go_sem]) rfl (SpA.err HR.out (by decide) HF.out)
    · obtain ⟨P, x, rfl⟩ : ∃ P x, l = P ++ [x] := ⟨l.dropLast, l.getLast hl, (List.dropLast_concat_getLast hl).symm⟩
      have hsp2 : Tr.spot g st = match Tr.fnd g g.root P with
        | .err e => .err e
        | .ok d => if (g.ent d).isSome = true then .at_ d x else .err 3 := by
        rw [hsp]
        unfold Tr.spotL
        rw [if_neg hl, List.dropLast_concat, List.getLastD_concat]
        cases Tr.fnd g g.root P <;> rfl
      have HR := Lib.hid hsp2
      have HN := Lib.hid (fun p (hp : p ∈ P) => hnm p (List.mem_append.2 (.inl hp)))
      clear hsp hsp2 hnm hl
      have h8 := HL8.out rfl
      rw [List.length_append, List.length_singleton] at h8
      have n1 : IntKind.i64.wrap (P.length : Int) = (P.length : Int) := by rw [IntKind.wrap_i64]; omega
      have HFE := Lib.hid (fun c (h : Tr.fnd g g.root P = .err c) => Tr.fnd_err_ne P g.root c h)
      have HFD := Lib.hid (fun d (h : Tr.fnd g g.root P = .ok d) => HS.out.node d (HS.out.found P g.root d HS.out.rootD h))
      clear HL8
      go_enter Tryd.func30, Tryd.ntmps30
      go_upto_region 6 with (go_at_call 19; (with_reducible refine useC HPA.out ?_); rintro e w1 ⟨v, gv, rfl, hv, hf⟩; obtain ⟨o, cc, rfl, hcap, hq, hi⟩ := strs_last hv; have HF := Lib.hid hf; have HI := Lib.hid (tr_find w1 tb g dom K _ gv P (HS.out.step hf) hi HN.out); clear hv hf hi; rw [show errV 0 = .nilIface from rfl])
      have z0 : (0 : Int) ≤ (P.length : Int) := by omega
      have z1 : (P.length : Int) ≤ (cc : Int) := by omega
      have z2 : P.length ≤ cc := by omega
      have z3 : ¬ cc = P.length := by omega
      have z4 : ¬ P.length = cc := by omega
      have z5 : (P.length : Int) < (P.length : Int) + 1 := by omega
      cases hfn : Tr.fnd g g.root P with
      | err c =>
        rw [hfn] at HI HR
        have hne := HFE.out c hfn
        have hev := errV_no hne
        have HNE := Lib.hid hne
        have HHR : Hid (Tr.spot g st = .err c) := HR.out
        unfold fndV at HI
        clear HFE HFD hfn hne HR
        go_wp2_with (go_at_call 41; (with_reducible refine useC HI.out ?_); rintro e w1 ⟨rfl, rfl⟩; rw [hev]; clear hev)
        go_wp2_with fail
        (refine wp_region_mix (· = w1.drew) 10 [(true, 0), (true, 1), (true, 2), (true, 3), (true, 4), (true, 5), (true, 6), (true, 7), (false, 8), (false, 9)] (by kernel_rfl) (by kernel_rfl) (rfl) ?_; simp only [pickOps, List.map_cons, List.map_nil, List.getD_cons_zero, List.getD_cons_succ, List.drop_succ_cons, List.drop_zero])
        (iterate 8 (first | (refine wpMix_take (v := ?_) (by rfl) ?_ ?_; rotate_left; (focus (intro W hW; subst hW; go_simp; (try with_reducible rfl); done)); try simp only [Act.put, List.setIfInBounds_toArray, List.set_cons_zero, List.set_cons_succ]) | (refine wpMix_leave (by rfl) ?_; try simp only [Act.put, List.setIfInBounds_toArray, List.set_cons_zero, List.set_cons_succ])))
        refine wpMix_walk ?_
        go_wp2
        refine MixQ.mk (rfl) ?_
        refine wpMix_walk ?_
        go_wp2
        refine MixQ.mk (rfl) ?_
        refine wpMix_nil ?_
        go_wp2
        exact bodyPost_ret (v := .tuple #[.pointer none, .string (Pa.mk x), errV c]) (by rw [errV_no HNE.out]; simp [results, Tryd.results30, go_sem]) rfl (SpA.err HHR.out HNE.out HF.out.drew)
      | ok d =>
        rw [hfn] at HI HR
        have hnode := HFD.out d hfn
        unfold fndV at HI
        clear HFE HFD hfn
        cases he : g.ent d with
        | none =>
          have HHR : Hid (Tr.spot g st = .err 3) := by
            have h1 : Tr.spot g st = if (g.ent d).isSome = true then .at_ d x else .err 3 := HR.out
            rw [he] at h1
            exact h1
          have h0 := HF.out.get (hnode.file he) (by simp)
          have n0 : w1.cell? ⟨d, 0, none⟩ = some (.map none) := by rw [cell_of_row _ _ _ _ _ _ h0]; rfl
          have q0 := mapNil w1 none
          clear hnode h0 he HR
          go_wp2_with (go_at_call 41; (with_reducible refine useC HI.out ?_); rintro e w1 ⟨rfl, rfl⟩)
          go_wp2_with fail
          (refine wp_region_mix (· = w1.drew) 10 [(true, 0), (true, 1), (true, 2), (true, 3), (true, 4), (true, 5), (true, 6), (true, 7), (false, 8), (false, 9)] (by kernel_rfl) (by kernel_rfl) (rfl) ?_; simp only [pickOps, List.map_cons, List.map_nil, List.getD_cons_zero, List.getD_cons_succ, List.drop_succ_cons, List.drop_zero])
          (iterate 8 (first | (refine wpMix_take (v := ?_) (by rfl) ?_ ?_; rotate_left; (focus (intro W hW; subst hW; go_simp; (try with_reducible rfl); done)); try simp only [Act.put, List.setIfInBounds_toArray, List.set_cons_zero, List.set_cons_succ]) | (refine wpMix_leave (by rfl) ?_; try simp only [Act.put, List.setIfInBounds_toArray, List.set_cons_zero, List.set_cons_succ])))
          refine wpMix_walk ?_
          go_wp2
          refine MixQ.mk (rfl) ?_
          refine wpMix_walk ?_
          go_wp2
          refine MixQ.mk (rfl) ?_
          refine wpMix_nil ?_
          go_wp2
          exact bodyPost_ret (v := .tuple #[.pointer (some ⟨d, 0, none⟩), .string (Pa.mk x), .iface 57 (.int .i64 3)]) (by simp [results, Tryd.results30, go_sem]) rfl (SpA.err (c := 3) HHR.out (by decide) HF.out.drew)
        | some m =>
          have HHR : Hid (Tr.spot g st = .at_ d x) := by
            have h1 : Tr.spot g st = if (g.ent d).isSome = true then .at_ d x else .err 3 := HR.out
            rw [he] at h1
            exact h1
          have h0 := HF.out.get (hnode.dir he).1 (by simp)
          have n0 : w1.cell? ⟨d, 0, none⟩ = some (.map (some (g.mb d))) := by rw [cell_of_row _ _ _ _ _ _ h0]; rfl
          have q0 := mapNil w1 (some (g.mb d))
          clear hnode h0 he HR
          go_wp2_with (go_at_call 41; (with_reducible refine useC HI.out ?_); rintro e w1 ⟨rfl, rfl⟩)
          go_wp2_with fail
          (refine wp_region_mix (· = w1.drew) 10 [(true, 0), (true, 1), (true, 2), (true, 3), (true, 4), (true, 5), (true, 6), (true, 7), (false, 8), (false, 9)] (by kernel_rfl) (by kernel_rfl) (rfl) ?_; simp only [pickOps, List.map_cons, List.map_nil, List.getD_cons_zero, List.getD_cons_succ, List.drop_succ_cons, List.drop_zero])
          (iterate 8 (first | (refine wpMix_take (v := ?_) (by rfl) ?_ ?_; rotate_left; (focus (intro W hW; subst hW; go_simp; (try with_reducible rfl); done)); try simp only [Act.put, List.setIfInBounds_toArray, List.set_cons_zero, List.set_cons_succ]) | (refine wpMix_leave (by rfl) ?_; try simp only [Act.put, List.setIfInBounds_toArray, List.set_cons_zero, List.set_cons_succ])))
          refine wpMix_walk ?_
          go_wp2
          refine MixQ.mk (rfl) ?_
          refine wpMix_walk ?_
          go_wp2
          refine MixQ.mk (rfl) ?_
          refine wpMix_nil ?_
          go_wp2
          exact bodyPost_ret (v := .tuple #[.pointer (some ⟨d, 0, none⟩), .string (Pa.mk x), .nilIface]) (by simp [results, Tryd.results30, go_sem]) rfl (SpA.at_ HHR.out HF.out.drew)
  · have hsp := HSP.out
    rw [if_neg hc] at hsp
    have HR := Lib.hid hsp
    have hev := errV_no hc
    have HC := Lib.hid hc
    clear hsp HSP HNM hc
    go_enter Tryd.func30, Tryd.ntmps30
    go_wp2_with (go_at_call 19; (with_reducible refine useC HPA.out ?_); rintro e w1 ⟨v, gv, rfl, hv, hf⟩; obtain ⟨A, o, cc, rfl, -⟩ := strs_cell hv; have HF := Lib.hid hf; clear hv hf; rw [hev]; clear hev)
    refine bodyPost_ret (v := .tuple #[.pointer none, .string { data := #[] }, errV c]) (by rw [errV_no HC.out]; simp [results, Tryd.results30, go_sem]) rfl (SpA.err HR.out HC.out HF.out)
end Go.Proofs.YtnglhfeialomgaaDoor
