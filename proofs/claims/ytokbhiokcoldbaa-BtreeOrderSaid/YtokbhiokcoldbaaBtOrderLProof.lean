/- BtreeOrder: for every input the answer is true and each argument reads behind the call as it read before. No condition. -/
import Derived.Test.YtokbhiokcoldbaaBtOrderL
import Derived.Test.YtokbhiokcoldbaaClose
import Derived.Test.YtokbhiokcoldbaaOpenRow
namespace Go.Proofs.Ytokbhiokcoldbaa.BtOrderC
open Go.ChangeShapes Go.WideShapes Go.ChangeAt Go.RowKit Go.WideElems Go.Deep Go.Joins

theorem own : ownKnob Try.prog.godebug = none := by kernel_rfl
theorem laidOut : laidOutB Try.prog = true := by kernel_rfl

theorem bytesI : Try.prog.bytesOf 3 = 8 := by kernel_rfl
section
variable {H : Type} {enc : TypeId × Value → H} {W : World}
theorem open_list_w {fuel : Nat} {v : Value} {d : DataW H} {ps : List MemPlace} (h : DataW.trod enc Try.prog W 0 (fun _ => true) true fuel 22 [v] = some (d, ps)) (hw : (d.weights Try.prog 22).all (· ≤ reachBytes) = true) : ∃ g xs, Sl W v g xs ∧ (g < W.heap.size ∨ xs = []) ∧ xs.length * 8 ≤ reachBytes := by
  obtain ⟨g, xs, hS, hg⟩ := open_list h
  refine ⟨g, xs, hS, hg, ?_⟩
  obtain ⟨A, o, c, hv, -, -, -⟩ := hS.form
  rcases open_ints Try.underlying22 Try.underlying3 cellsIntL h with ⟨hcs, hx⟩ | ⟨a, len, cap, zs, hcs, _, hl, hm, hzl, hx, hc, _⟩
  · simp only [List.cons.injEq, and_true] at hcs
    rw [hcs] at hv
    injection hv with _ h2 _
    omega
  · simp only [List.cons.injEq, and_true] at hcs
    rw [hcs] at hv
    injection hv with _ h2 _
    injection hx with hx _
    have h3 := List.all_eq_true.1 hw (((lits (H := H) .i64 (zs.take len)).length + (lits (H := H) .i64 (zs.drop len)).length) * Try.prog.bytesOf 3) (by rw [hx]; simp only [DataW.weights, Try.underlying22]; exact List.mem_cons_self)
    have h4 := of_decide_eq_true h3
    rw [bytesI] at h4
    simp only [lits, List.length_map, List.length_take, List.length_drop] at h4
    have h5 : zs.length = cap := by simpa using hzl
    omega
end
set_option maxRecDepth 100000 in
theorem lifted (os : Os) (started : os.Started) (H : Type) (enc : TypeId × Value → H) :
    ReturnsInHanded {} Try.checked os 4 .any (Rows.btreeOrderSpec.pre6 enc Try.prog Try.f4 Rows.btreeOrderRow.domain false) (Rows.btreeOrderSpec.post enc Try.prog Try.f4 false true false false) := by
  refine returnsInHanded_of_calls (C := Try.checked) own started (by kernel_rfl)
    (ChangeSpec.witness6 (enc := enc) (C := Try.checked) false ⟨#[], #[.slice none 0 0], []⟩ 8 (by kernel_rfl) (by kernel_rfl) (by kernel_rfl) (by kernel_rfl)) ?_
  intro w0 tape inp _ _ _ hok hpre _
  obtain ⟨_, _, _, fn', hfn', _, _, _, _, hval1⟩ := hok
  obtain rfl : fn' = Try.f4 := Option.some.inj (hfn'.symm.trans Try.func4)
  obtain ⟨⟨ds, gs, before, hw0, _⟩, hz⟩ := hpre
  have hwt := hz.weights hw0
  have hW := DataW.Whole.of_heap (w' := w0.forCall tape inp) (by rfl) hw0
  suffices hgoal : Calls Try.checked.prog 4 inp.args (w0.forCall tape inp) fun e W' => ∃ v, e = .returned v ∧ Rows.btreeOrderSpec.post enc Try.prog Try.f4 false true false false (w0.forCall tape inp) inp.args v W' from hgoal.mono fun e W' ⟨v, he, hp⟩ => by subst he; exact ChangeSpec.post_blind hp
  clear hz hw0 hfn'
  generalize inp.args = args at *
  generalize w0.heap.size = base at *
  generalize w0.forCall tape inp = W at *
  have hval0 := hval1
  have hval : ∀ (j : Nat) t v, Try.f4.params[j]? = some t → args[j]? = some v → Value.okWide Try.prog W .any base t v := hval0
  have hW' := hW
  obtain ⟨p, q, hA0, hV, rfl, hfz, hnd⟩ := hW
  have hA : DataW.TrodAll enc Try.prog W 0 (fun _ => true) true Try.f4.params.toList args.toList ds p := hA0
  rw [Try.params4] at hA hval
  obtain ⟨v0, vs0, d0, ds0, p0, q0, hargs, rfl, rfl, h0, r0⟩ := trodAll_cons hA
  obtain ⟨rfl, rfl, rfl⟩ := trodAll_nil r0
  obtain rfl : args = #[v0] := by cases args; simp_all
  obtain ⟨rfl, rfl⟩ := trodVars_none hV
  obtain ⟨a0, len0, cap0, rfl⟩ := okWide_slice Try.underlying22 (hval 0 22 v0 rfl rfl)
  obtain ⟨fuel0, hf0⟩ := h0
  rw [Try.params4] at hwt
  obtain ⟨g0, xs0, hS0, hg0, hb0⟩ := open_list_w hf0 (List.all_eq_true.2 fun n hn => List.all_eq_true.1 hwt n (by simp only [List.cons_append, List.nil_append, DataW.weightsEach]; exact List.mem_append_left _ hn))
  have hr : reachBytes = 140737488351232 := rfl
  rw [hr] at hb0
  refine (bt_orderL W _ g0 xs0 hS0 (by omega)).mono fun e W' ⟨he, hb⟩ => ?_
  subst he
  exact ⟨_, rfl, law_post (tb := 4) laidOut rfl hW' rfl (by rw [Try.params4]; exact of_decide_eq_true (by kernel_rfl)) rfl Try.underlying4 hb.below⟩

theorem proved : Rows.BtreeOrderSaid :=
  OpenClaim.holds_of_wide 4 Try.f4 rfl rfl rfl rfl rfl rfl rfl ⟨rfl, rfl, rfl, rfl, rfl⟩ rfl rfl rfl rfl rfl (by kernel_rfl) Try.func4 (by kernel_rfl)
    (of_decide_eq_true (by kernel_rfl)) (by unfold Func.isWrapper; first | (rw [if_pos (by decide +kernel)]; kernel_rfl) | (rw [if_neg (by decide +kernel)]; exact ⟨rfl, rfl⟩))
    (fun os started H enc _ => lifted os started H enc)
end Go.Proofs.Ytokbhiokcoldbaa.BtOrderC
