/- treeFact. -/
import Derived.Deep.Strs
import Derived.Deep.Slices
import Derived.Test.YtnglhfeialomgaaDoorCards
import Derived.Test.YtnglhfeialomgaaDoorTie
import Derived.ChangeVars
import Derived.LaidLaws
import Derived.LaidHandle
import Derived.LaidMore
import Derived.Stop.Joined
import Derived.SevenTiedAt
import Derived.Test.YtnglhfeialomgaaDoorTq21
import Derived.Test.YtnglhfeialomgaaDoorTq26
import Derived.Test.YtnglhfeialomgaaDoorTq27
import Derived.Test.YtnglhfeialomgaaDoorTq28
import Derived.Test.YtnglhfeialomgaaDoorTq29
namespace Go.Proofs.YtnglhfeialomgaaDoor
open Go.RowKit

set_option maxRecDepth 100000 in
set_option maxHeartbeats 2000000 in
theorem tr_fact (w : World) : Calls Tryd.prog 8 #[] w (OkT w) := by
  have HN := Lib.hid (trl_new (Fr.refl [] w))
  go_enter Tryd.func8, Tryd.ntmps8
  go_upto_region 2 with (go_at_call 22; (with_reducible refine useC HN.out ?_); rintro e w1 ⟨tb, n, m, rfl, h⟩; have HL := Lib.hid h; clear h)
  obtain ⟨p1, p2⟩ := Tr.fact_1 n m
  have HD : Hid (Calls Tryd.prog 17 #[.pointer (some ⟨tb, 0, none⟩), .string ⟨#[47, 97]⟩] w1 fun e w' => e = .returned .nilIface ∧ ∃ c o, ¬ c = n ∧ Option.isSome o = true ∧ TrL w w' tb (Tr.fg1 n m c o) (fun b => b = n ∨ b = c) 1) :=
    (trl_Dir HL.out (by decide) ⟨#[47, 97]⟩).mono fun e w' h => h.ok p2 p1
  clear p1 p2
  go_upto_region 3 with (go_at_call 17; (with_reducible refine useC HD.out ?_); rintro e w2 ⟨rfl, c, o, hc, ho, h⟩; have HL1 := Lib.hid h; clear h)
  have HC := Lib.hid hc
  have HO := Lib.hid ho
  obtain ⟨p1, p2, -⟩ := Tr.fact_2 hc ho HL1.out.s.ok
  have HFI : Hid (Calls Tryd.prog 16 #[.pointer (some ⟨tb, 0, none⟩), .string ⟨#[47, 97, 47, 120]⟩] w2 fun e w' => e = .returned .nilIface ∧ ∃ c2 o2, ¬ (c2 = n ∨ c2 = c) ∧ Option.isSome o2 = false ∧ TrL w w' tb (Tr.fg2 n m c o c2 o2) (fun b => (b = n ∨ b = c) ∨ b = c2) 2) :=
    (trl_File HL1.out (by decide) ⟨#[47, 97, 47, 120]⟩).mono fun e w' h => h.ok p2 p1
  clear p1 p2 hc ho
  go_upto_region 4 with (go_at_call 16; (with_reducible refine useC HFI.out ?_); rintro e w3 ⟨rfl, c2, o2, hc2, ho2, h⟩; have HL2 := Lib.hid h; clear h)
  have hcl := HL1.out.domC
  obtain ⟨p1, -, p2, p3, -⟩ := Tr.fact_3 (dom := fun b => b = n ∨ b = c) HC.out HO.out HL1.out.s.ok (.inl rfl) hcl.2 hc2 ho2 HL2.out.s.ok
  obtain ⟨p4, p5⟩ := Tr.fact_4 (dom := fun b => b = n ∨ b = c) HC.out HO.out HL1.out.s.ok (.inl rfl) hcl.2 hc2 ho2 HL2.out.s.ok
  have HLK : Hid (Calls Tryd.prog 12 #[.pointer (some ⟨tb, 0, none⟩), .string ⟨#[47, 97, 47, 120]⟩, .string ⟨#[47, 121]⟩] w3 fun e w' => e = .returned .nilIface ∧ TrL w w' tb (Tr.addG (Tr.fg2 n m c o c2 o2) n [121] c2) (fun b => (b = n ∨ b = c) ∨ b = c2) 3) :=
    (trl_Link HL2.out (by decide) ⟨#[47, 97, 47, 120]⟩ ⟨#[47, 121]⟩).mono fun e w' h => h.ok p3 p1 p2
  clear p1 p2 p3 hc2 ho2 hcl
  go_upto_region 5 with (go_at_call 12; (with_reducible refine useC HLK.out ?_); rintro e w4 ⟨rfl, h⟩; have HL3 := Lib.hid h; clear h)
  have HNM : Hid (Calls Tryd.prog 10 #[.pointer (some ⟨tb, 0, none⟩), .string ⟨#[47, 121]⟩] w4 fun e w' => e = .returned (.tuple #[.int .i64 2, .nilIface]) ∧ TrL w w' tb (Tr.addG (Tr.fg2 n m c o c2 o2) n [121] c2) (fun b => (b = n ∨ b = c) ∨ b = c2) 3) :=
    (trl_Names HL3.out ⟨#[47, 121]⟩).mono fun e w' h => ⟨by rw [h.1]; exact congrArg _ p4, h.2.1⟩
  have HP5 := Lib.hid p5
  clear p4 p5
  go_upto_region 6 with (go_at_call 10; (with_reducible refine useC HNM.out ?_); rintro e w5 ⟨rfl, h⟩; have HL4 := Lib.hid h; clear h)
  have HWK := Lib.hid (trl_Walk HL4.out)
  go_wp2_with (first
    | (go_at_call 11; (with_reducible refine useC HWK.out ?_); rintro e w6 ⟨v, l, gv, rfl, -, hs, hw, -, -, h⟩; obtain rfl := HP5.out l hw; obtain ⟨A, o6, c6, rfl, -⟩ := strs_cell hs; have HL5 := Lib.hid h; have HTX := Lib.hid (texts_same _ _ _ _ _ _ (slR_alloc hs _) (three_lit w6)); clear h hs hw)
    | (go_at_call 15; (with_reducible refine useC HTX.out ?_); rintro e w7 ⟨rfl, hf⟩; have HF7 := Lib.hid hf; clear hf))
  go_ret
  exact ⟨rfl, (HL5.out.fr.trans ((Fr.refl [] w6).alloc _)).trans HF7.out⟩
end Go.Proofs.YtnglhfeialomgaaDoor
/- grown. -/
namespace Go.Proofs.YtnglhfeialomgaaDoor
open Go.RowKit

/-- What grown hands a law. -/
def GrownL (w0 : World) (e : Ending) (w' : World) : Prop := ∃ tb g dom, e = .returned (.pointer (some ⟨tb, 0, none⟩)) ∧ TrL w0 w' tb g dom 80
set_option maxRecDepth 100000 in
set_option maxHeartbeats 4000000 in
theorem tr_grown (w0 w : World) (v : Value) (ls : List (List (List UInt8))) (hR : RwT w0 v ls) (hf0 : Fr [] w0 w) :
    Calls Tryd.prog 9 #[v] w (GrownL w0) := by
  obtain ⟨A, g, o, c, rfl, hm, hA, hc⟩ := hR
  have HN := Lib.hid (trl_new (w0 := w0) hf0)
  have HA := Lib.hid hA
  have HC := Lib.hid hc
  clear hA hc hf0
  go_enter Tryd.func9, Tryd.ntmps9
  go_wp2_with (go_at_call 22; (with_reducible refine useC HN.out ?_); rintro e w1 ⟨tb, n, m, rfl, h⟩; have HL := Lib.hid h; clear h)
  go_loopw [4] (fun iv wr => ∃ i : Nat, i ≤ ls.length ∧ i ≤ 40 ∧ iv = .int .i64 i ∧ ∃ g dom, Hid (TrL w0 wr tb g dom (2 * i))) (fun iv _ => ls.length - (intOf iv).toNat)
  case atStart => exact ⟨0, Nat.zero_le _, by decide, rfl, _, _, HL⟩
  case round =>
    clear HL
    obtain ⟨i, hi, h40, rfl, g', dom, hI⟩ := hrel
    have i0 : (0 : Int) ≤ i := by omega
    by_cases hlt : i < ls.length
    · have iI : (i : Int) < ls.length := by omega
      by_cases hl4 : i < 40
      · have i4 : (i : Int) < 40 := by omega
        obtain rfl := HA.out (by omega)
        obtain ⟨u, gi, hu, hs⟩ := HC.out i hlt
        have q := hI.out.fr.cell hu (by simp)
        have HDID := Lib.hid (tr_did w0 wr tb (2 * i) g' dom hI.out (by omega) gi u ls[i] (slR_fr hs hI.out.fr))
        generalize ls[i] = x at *
        clear hu hs
        go_wp2_with (go_at_call 24; (with_reducible refine useC HDID.out ?_); intro e w2 h; obtain ⟨cc, g2, dom2, he, h2⟩ := h.some; subst he; have HL2 := Lib.hid h2; clear h h2)
        go_roundw
        case rel => exact ⟨i + 1, by omega, by omega, by go_num, g2, dom2, HL2.out.mono (by omega)⟩
        case measure => (simp [intOf]; try omega)
      · have i4 : ¬ (i : Int) < 40 := by omega
        have HE := Lib.hid (hI.out.mono (K' := 80) (by omega))
        clear hlt hl4
        go_wp2
        go_ret
        exact ⟨tb, g', dom, rfl, HE.out⟩
    · have iI : ¬ (i : Int) < ls.length := by omega
      have HE := Lib.hid (hI.out.mono (K' := 80) (by omega))
      clear hlt
      go_wp2
      go_ret
      exact ⟨tb, g', dom, rfl, HE.out⟩
end Go.Proofs.YtnglhfeialomgaaDoor

/- An argument of type [][]string, opened. -/
namespace Go.Proofs.YtnglhfeialomgaaDoor
open Go.ChangeShapes Go.WideShapes Go.ChangeAt Go.RowKit Go.WideElems Go.Deep
theorem cellsStrL : Tryd.prog.cellsOf 30 = 1 := by kernel_rfl
theorem cellsStr : Tryd.prog.cellsOf 9 = 1 := by kernel_rfl
theorem mk_data (s : ByteArray) : Pa.mk s.data.toList = s := by
  apply ByteArray.ext
  simp [Pa.mk]
theorem spot_noneT {w : World} {a : Addr} {x : Value} (h : w.cell? a = some x) : a = ⟨a.block, a.off, none⟩ := by
  have hsp : a.spot = none := World.cell?_spot h
  obtain ⟨bl, of, sp⟩ := a
  simp only at hsp
  subst hsp
  rfl
section
variable {H : Type} {enc : TypeId × Value → H} {W : World}
theorem open_text {fuel : Nat} {v : Value} {x : DataW H × List MemPlace} (h : DataW.trod enc Tryd.prog W 0 (fun _ => true) true fuel 30 [v] = some x) : ∃ g l, SlR strE W v g l := by
  rcases open_strs Tryd.underlying30 Tryd.underlying9 cellsStr h with ⟨hcs, _⟩ | ⟨a, len, cap, m, Sx, hcs, _, hl, hm, hmm, _, hc⟩
  · simp only [List.cons.injEq, and_true] at hcs
    subst hcs
    exact ⟨0, [], .inl ⟨rfl, _, _, rfl⟩⟩
  · simp only [List.cons.injEq, and_true] at hcs
    subst hcs
    have hm' : m = cap := by simpa using hmm
    by_cases h0 : len = 0
    · subst h0; exact ⟨0, [], .inl ⟨rfl, _, _, rfl⟩⟩
    · have hc0 := (hc 0 (by omega)).1
      rw [Addr.add_zero'] at hc0
      have hsp := spot_noneT hc0
      have hlen : ((List.range len).map fun j => (Sx j).data.toList).length = len := by simp
      refine ⟨a.block, (List.range len).map fun j => (Sx j).data.toList, .inr ⟨a.off, cap, by rw [hlen, ← hsp], by rw [hlen]; exact hl, hm, fun i hi r hr => ?_⟩⟩
      rw [hlen] at hi
      have hr : r < 1 := hr
      obtain rfl : r = 0 := by omega
      have := (hc i (by omega)).1
      rw [hsp, Addr.add_lit] at this
      rw [show a.off + i * strE.k + 0 = a.off + i from by show a.off + i * 1 + 0 = _; omega, this]
      simp [strE, mk_data]
theorem open_texts {a0 : Option Addr} {len cap fuel : Nat} {x : DataW H × List MemPlace} (h : DataW.trod enc Tryd.prog W 0 (fun _ => true) true fuel 22 [.slice a0 len cap] = some x) : ∃ ls, RwT W (.slice a0 len cap) ls := by
  rcases open_slice1 Tryd.underlying22 cellsStrL h with ⟨hcs, _⟩ | ⟨a, len', cap', m, n, V, D, Pl, hcs, _, hl, hm, hmm, _, hx⟩
  · simp only [List.cons.injEq, Value.slice.injEq, and_true] at hcs
    obtain ⟨rfl, rfl, rfl⟩ := hcs
    exact ⟨[], none, 0, 0, 0, rfl, by simp, by simp, by simp⟩
  · simp only [List.cons.injEq, Value.slice.injEq, and_true] at hcs
    obtain ⟨rfl, rfl, rfl⟩ := hcs
    have hm' : m = cap := by simpa using hmm
    have hrow : ∀ i, i < len → ∃ gl : Nat × List (List UInt8), SlR strE W (V i) gl.1 gl.2 := fun i hi => by
      obtain ⟨g, l, hs⟩ := open_text (hx i (by omega)).2
      exact ⟨(g, l), hs⟩
    obtain ⟨GL, hGL⟩ := choose_lt hrow
    have hlen : ((List.range len).map fun i => (GL i).2).length = len := by simp
    refine ⟨(List.range len).map fun i => (GL i).2, some a, a.block, a.off, cap, by rw [hlen], by rw [hlen]; unfold maxLen at hm; omega, fun h0 => ?_, fun i hi => ?_⟩
    · rw [hlen] at h0
      have hc := (hx 0 (by omega)).1
      rw [Addr.add_zero'] at hc
      exact congrArg some (spot_noneT hc)
    · rw [hlen] at hi
      have hc := (hx i (by omega)).1
      have hc0 := (hx 0 (by omega)).1
      rw [Addr.add_zero'] at hc0
      rw [spot_noneT hc0, Addr.add_lit] at hc
      refine ⟨V i, (GL i).1, hc, ?_⟩
      simpa using hGL i hi
end
end Go.Proofs.YtnglhfeialomgaaDoor

/- TopPaths: for every input the answer is true and each argument reads behind the call as it read before, the variable errors.errorType holding what the program's text lays (tied: the card). No other condition. -/
namespace Go.Proofs.YtnglhfeialomgaaDoor.TopPathsC
open Go.ChangeShapes Go.WideShapes Go.ChangeAt Go.RowKit

theorem own : ownKnob Tryd.prog.godebug = none := by kernel_rfl
theorem laidOut : laidOutB Tryd.prog = true := by kernel_rfl
/-- A world that meets the condition: the settled one, the two tables laid. -/
noncomputable def laidWorld (os : Os) : World :=
  let w0 := World.holding Tryd.prog os ⟨#[], #[], []⟩
  { w0 with heap := (w0.heap.modify 2 fun
      | .cells _ t frozen => .cells (Go.Pinned.utf8FirstZ.map fun n : Nat => Value.int .u8 (n : Int)).toArray t frozen
      | o => o).modify 3 fun
      | .cells _ t frozen => .cells (([128, 191, 160, 191, 128, 159, 144, 191, 128, 143] ++ List.replicate 22 0).map fun n : Nat => Value.int .u8 (n : Int)).toArray t frozen
      | o => o }
theorem laidWorld_met (os : Os) (args : Array Value) : laidMetH Tryd.prog Rows.topPathsRow.laid ((laidWorld os).forCall (fun _ _ => 0) ⟨#[], args, []⟩).memory :=
  laidMetH_of_parts (laidMet_of_run' 300 (by kernel_rfl) (by kernel_rfl)) (by kernel_rfl)

set_option maxRecDepth 100000 in
theorem lifted (os : Os) (started : os.Started) (H : Type) (enc : TypeId × Value → H) :
    ReturnsInHanded {} Tryd.checked os 7 .any (fun w args => (Rows.topPathsSpec.pre enc Tryd.prog Tryd.f7 [] false w args ∧ laidMetH Tryd.prog Rows.topPathsRow.laid w) ∧ sizedMet enc Tryd.prog Tryd.f7 (OpenSpec.ofChange Rows.topPathsSpec) false w args)
      (Rows.topPathsSpec.post enc Tryd.prog Tryd.f7 false true false false) := by
  refine returnsInHanded_of_change_and (C := Tryd.checked) (X := fun w _ => laidMetH Tryd.prog Rows.topPathsRow.laid w) (fun _ _ _ hh h => h.of_heap hh) own started (by kernel_rfl) Tryd.func7
    (ChangeSpec.witness_at (enc := enc) (C := Tryd.checked) (os := os) (X := fun w _ => laidMetH Tryd.prog Rows.topPathsRow.laid w) false (laidWorld os) #[.slice none 0 0] 8 rfl (by kernel_rfl) (by kernel_rfl) (by kernel_rfl) (by kernel_rfl) (by kernel_rfl) (laidWorld_met os _)) ?_
  intro W base args ds gs before hval0 hW _ hwt hL _
  have hval : ∀ (j : Nat) t v, Tryd.f7.params[j]? = some t → args[j]? = some v → Value.okWide Tryd.prog W .any base t v := hval0
  have hW' := hW
  obtain ⟨p, q, hA0, hV, rfl, hfz, hnd⟩ := hW
  have hA : DataW.TrodAll enc Tryd.prog W 0 (fun _ => true) true Tryd.f7.params.toList args.toList ds p := hA0
  rw [Tryd.params7] at hA hval
  obtain ⟨v0, vs0, d0, ds0, p0, q0, hargs, rfl, rfl, h0, r0⟩ := trodAll_cons hA
  obtain ⟨rfl, rfl, rfl⟩ := trodAll_nil r0
  obtain rfl : args = #[v0] := by cases args; simp_all
  obtain ⟨rfl, rfl⟩ := trodVars_none hV
  obtain ⟨a0, len0, cap0, rfl⟩ := okWide_slice Tryd.underlying22 (hval 0 22 v0 rfl rfl)
  obtain ⟨fuel0, hf0⟩ := h0
  obtain ⟨ls0, hR0⟩ := open_texts hf0
  refine (top_paths W _ _ hR0).mono fun e W' ⟨he, hb⟩ => ?_
  subst he
  exact ⟨_, rfl, law_post (tb := 4) laidOut rfl hW' rfl (by rw [Tryd.params7]; exact of_decide_eq_true (by kernel_rfl)) rfl Tryd.underlying4 hb.below⟩

theorem said : Rows.TopPathsSaid :=
  OpenClaim.holds_of_wide 7 Tryd.f7 rfl rfl rfl rfl rfl rfl rfl ⟨rfl, rfl, rfl, rfl, rfl⟩ rfl rfl rfl rfl rfl (by kernel_rfl) Tryd.func7 (by kernel_rfl)
    (of_decide_eq_true (by kernel_rfl)) (by unfold Func.isWrapper; first | (rw [if_pos (by decide +kernel)]; kernel_rfl) | (rw [if_neg (by decide +kernel)]; exact ⟨rfl, rfl⟩))
    (fun os started H enc _ => lifted os started H enc)

/-- No parameter wants a stand-in; the program's own looks are on: what the card asks. -/
theorem plain (f : FuncId) (fn : Func) (hf : Tryd.pinned.checked.prog.funcNamed "platterhold/platterholdtop.TopPaths" = some f) (hfn : Tryd.pinned.checked.prog.funcs[f]? = some fn) :
    true = Tryd.pinned.checked.prog.looks [] ∧ ∀ (j : Nat) t, fn.params[j]? = some t → Tryd.pinned.checked.prog.wantsStandIn t = false := by
  obtain rfl : f = 7 := Option.some.inj ((show Tryd.prog.funcNamed "platterhold/platterholdtop.TopPaths" = some 7 by kernel_rfl).symm.trans hf) |>.symm
  obtain rfl : fn = Tryd.f7 := (Option.some.inj (Tryd.func7.symm.trans hfn)).symm
  refine ⟨by kernel_rfl, fun j t ht => ?_⟩
  rw [Tryd.params7] at ht
  have hm : t ∈ [22] := by simpa using Array.mem_of_getElem? ht
  exact (show ∀ x ∈ [22], Tryd.prog.wantsStandIn x = false from of_decide_eq_true (by kernel_rfl)) t hm

/-- THE CARD. -/
theorem proved : Rows.TopPathsCardSaid :=
  Claim7.holds_tied_plain_at .later [] _ _ _ _ said (fun _ h => by cases h) (by kernel_rfl) (fun _ h => by cases h) topPaths_row_tie rfl ⟨rfl, rfl⟩ (by kernel_rfl) rfl plain (by kernel_rfl)
end Go.Proofs.YtnglhfeialomgaaDoor.TopPathsC
