/- How a law's row is closed: its arguments read again in a world in which nothing old has turned; rows of integers opened. -/
import Derived.Test.YtnglhfeialomgaaGreatDoorRows
import Derived.ProofKit
import Derived.OpenShut
import Derived.JoinedCond
import Derived.WideKeyArgs
import Derived.Deep.Strs
import Derived.Deep.Slices
import Derived.ChangeMaps5
import Derived.Test.YtnglhfeialomgaaGreatDoorCards
import Derived.Test.YtnglhfeialomgaaGreatDoorTie
import Derived.ChangeVars
import Derived.LaidLaws
import Derived.LaidHandle
import Derived.LaidMore
import Derived.Stop.Joined
import Derived.SevenTiedAt
import Derived.Test.YtnglhfeialomgaaGreatDoorTz01
import Derived.Test.YtnglhfeialomgaaGreatDoorTz16
import Derived.Test.YtnglhfeialomgaaGreatDoorTz27
namespace Go.Proofs.YtnglhfeialomgaaGreatDoor
open Go.ChangeShapes Go.WideShapes Go.ChangeAt Go.RowKit Go.WideElems Go.Deep

section
variable {H : Type} {enc : TypeId × Value → H} {P : Program}
theorem post_of_below {f : Func} {s : ChangeSpec} {apart fresh handsOn again : Bool} {W W' : World} {args : Array Value} {v : Value} {ds gs : List (DataW H)} {before pa pv : List MemPlace}
    (hW : DataW.Whole enc P f.params.toList s.vars apart W args.toList ds gs before)
    (hres : ∀ (b : Nat) (sp : Nat → Bool) (hd : Bool), DataW.TrodAll enc P W' b sp hd f.resultTypes.toList (v.resultList f.resultTypes.size) (s.fn H (ds ++ gs)).results [])
    (hargs : ∀ sp : Nat → Bool, (∀ p ∈ before, sp p.block = true) → DataW.TrodAll enc P W' 0 sp true f.params.toList args.toList (s.fn H (ds ++ gs)).args pa)
    (hvars : ∀ sp : Nat → Bool, (∀ p ∈ before, sp p.block = true) → DataW.TrodVars enc P W' sp s.vars (s.fn H (ds ++ gs)).vars pv)
    (hps : before = pa ++ pv) (hb : Below W.heap.size W W')
    (hok : ∀ (j : Nat) (t : TypeId) (r : Value), f.resultTypes[j]? = some t → (v.resultList f.resultTypes.size)[j]? = some r → Value.okWide P W' .any 0 t r) :
    s.post enc P f apart fresh handsOn again W args v W' := by
  have hlt : ∀ p ∈ before, p.block < W.heap.size := fun p hp => hW.lt p hp
  have hold : ∀ p ∈ before, (fun b => decide (b < W.heap.size)) p.block = true := fun p hp => by simpa using hlt p hp
  refine ⟨ds, gs, before, [], pa, pv, hW, hres _ _ _, hargs _ hold, hvars _ hold, World.keptBut_mono (fun p hp => ⟨hp, ?_⟩) (hb.frame (· ∈ before)), fun _ => ?_⟩
  · rw [hps, List.mem_append] at hp
    exact Or.inr hp
  · obtain ⟨_, _, _, _, _, hz, hn⟩ := hW
    refine ⟨hok, _, _, ([] ++ pa) ++ pv, ⟨[] ++ pa, pv, trodAll_append (hargs _ (fun _ _ => rfl)) (hres _ _ _), hvars _ (fun _ _ => rfl), rfl, ?_, ?_⟩, ?_⟩
    · intro b off hp
      have hin : MemPlace.cell b off ∈ before := by rw [hps]; simpa using hp
      rw [hb.frozen (hlt _ hin)]
      exact hz b off hin
    · intro ha
      have := hn ha
      rw [hps] at this
      simpa using this
    · intro p hp _
      rw [hps]
      simpa using hp

theorem trodAll_stays (hl : laidOutB P = true) {W W' : World} {sp' : Nat → Bool} (hs : ∀ p : MemPlace, p.block < W.heap.size → W.sameAt W' p) :
    ∀ (ts : List TypeId) (vs : List Value) (ds : List (DataW H)) (ps : List MemPlace), (∀ t ∈ ts, P.readableRec t = true ∧ t < P.types.size) →
      DataW.TrodAll enc P W 0 (fun _ => true) true ts vs ds ps → (∀ p ∈ ps, p.block < W.heap.size ∧ sp' p.block = true) → DataW.TrodAll enc P W' 0 sp' true ts vs ds ps
  | [], [], [], _, _, h, _ => h
  | t :: ts, v :: vs, d :: ds, _, ht, ⟨p, q, h1, h2, e⟩, hp => by
    subst e
    exact ⟨p, q, Trod_stays hl (ht t (by simp)).1 (ht t (by simp)).2 h1 (fun x hx => hs x (hp x (by simp [hx])).1) (fun x hx => (hp x (by simp [hx])).2),
      trodAll_stays hl hs ts vs ds q (fun x hx => ht x (by simp [hx])) h2 (fun x hx => hp x (by simp [hx])), rfl⟩
  | [], _ :: _, _, _, _, h, _ => h.elim
  | [], [], _ :: _, _, _, h, _ => h.elim
  | _ :: _, [], _, _, _, h, _ => h.elim
  | _ :: _, _ :: _, [], _, _, h, _ => h.elim

/-- A law's end: true, and nothing that was there has turned. -/
theorem law_post {f : Func} {s : ChangeSpec} {W W' : World} {args : Array Value} {ds : List (DataW H)} {before : List MemPlace} {tb : TypeId}
    (hl : laidOutB P = true) (hv : s.vars = []) (hW : DataW.Whole enc P f.params.toList s.vars false W args.toList ds [] before)
    (hs : s.fn H (ds ++ []) = { results := [.lit (.bool true)], args := ds })
    (ht : ∀ t ∈ f.params.toList, P.readableRec t = true ∧ t < P.types.size) (hr : f.resultTypes = #[tb]) (hu : P.underlying tb = some .bool) (hb : Below W.heap.size W W') :
    s.post enc P f false true false false W args (.bool true) W' := by
  have hlt : ∀ p ∈ before, p.block < W.heap.size := fun p hp => hW.lt p hp
  have hW' := hW
  obtain ⟨p, q, hA, hV, rfl, _, _⟩ := hW
  rw [hv] at hV
  have hq : q = [] := by simpa [DataW.TrodVars] using hV
  subst hq
  have e1 : (s.fn H (ds ++ [])).results = [.lit (.bool true)] := by rw [hs]
  have e2 : (s.fn H (ds ++ [])).args = ds := by rw [hs]
  have e3 : (s.fn H (ds ++ [])).vars = [] := by rw [hs]
  refine post_of_below (pa := p) (pv := []) hW' ?_ ?_ ?_ rfl hb ?_
  · intro b sp hd
    rw [e1, hr]
    exact trodAll_mk1 (shut_bool hu true)
  · intro sp hsp
    rw [e2]
    exact trodAll_stays hl (fun x hx => hb.same hx) _ _ _ _ ht hA (fun x hx => ⟨hlt x (by simp [hx]), hsp x (by simp [hx])⟩)
  · intro sp _
    rw [e3, hv]
    rfl
  · exact ok_one hr rfl (okWide_bool_mk hu true)
end

/-! ### Arguments opened -/
theorem i64_of_wf {x : Int} (h : (Lit.int .i64 x).wf = true) : I64 x := by
  simp [Lit.wf, IntKind.min, IntKind.max, IntKind.signed, IntKind.bits] at h
  exact ⟨by omega, by omega⟩
section
variable {H : Type} {enc : TypeId × Value → H} {P : Program}
/-- A list of lists of integers that came in. -/
theorem open_rows {t e q : TypeId} {W : World} {a0 : Option Addr} {len cap fuel : Nat} {x : DataW H × List MemPlace} (ht : P.underlying t = some (.slice e)) (he : P.underlying e = some (.slice q)) (hq : P.underlying q = some (.int .i64))
    (ce : P.cellsOf e = 1) (cq : P.cellsOf q = 1) (h : DataW.trod enc P W 0 (fun _ => true) true fuel t [.slice a0 len cap] = some x) : ∃ ls, Rw W.heap.size W (.slice a0 len cap) ls := by
  rcases open_int_rows ht he hq ce cq h with ⟨hcs, _⟩ | ⟨a, len', cap', A, L, C, Z, hcs, _, hl, hm, _, hrows⟩
  · simp only [List.cons.injEq, Value.slice.injEq, and_true] at hcs
    obtain ⟨rfl, rfl, rfl⟩ := hcs
    exact ⟨[], none, 0, 0, 0, rfl, by simp, by simp, by simp⟩
  · simp only [List.cons.injEq, Value.slice.injEq, and_true] at hcs
    obtain ⟨rfl, rfl, rfl⟩ := hcs
    refine ⟨(List.range len).map fun r => (Z r).take (L r), some a, a.block, a.off, cap, by simp, by simp; unfold maxLen at hm; omega, ⟨fun h0 => ?_, fun i hi => ?_⟩⟩
    · have h0' : 0 < len := by simpa using h0
      have hc := (hrows 0 (by omega)).1
      rw [Addr.add_zero'] at hc
      have hsp : a.spot = none := World.cell?_spot hc
      obtain ⟨bl, of, sp⟩ := a
      simp only at hsp
      subst hsp
      exact ⟨rfl, block_lt_of_cell hc⟩
    · have hi' : i < len := by simpa using hi
      obtain ⟨hc, h1, h2, h3, h4, h5, h6⟩ := hrows i (by omega)
      have hc0 := (hrows 0 (by omega)).1
      rw [Addr.add_zero'] at hc0
      have hsp : a.spot = none := World.cell?_spot hc0
      obtain ⟨bl, of, sp⟩ := a
      simp only at hsp
      subst hsp
      rw [Addr.add_lit] at hc
      have er : nthR ((List.range len).map fun r => (Z r).take (L r)) i = (Z i).take (L i) := by simp [nthR, List.getD, hi']
      have elen : ((Z i).take (L i)).length = L i := by rw [List.length_take, h3]; omega
      rw [er]
      cases hA : A i with
      | none =>
        have hC := h5 hA
        have hL : L i = 0 := by omega
        refine ⟨_, 0, hc, .inr (by rw [hL]; rfl), .inl ⟨by rw [hL]; rfl, _, _, by rw [hL]⟩, fun x hx => i64_of_wf (h4 x (List.mem_of_mem_take hx))⟩
      | some a' =>
        obtain ⟨_, h7⟩ := h6 a' hA
        by_cases hL : L i = 0
        · exact ⟨_, 0, hc, .inr (by rw [hL]; rfl), .inl ⟨by rw [hL]; rfl, _, _, by rw [hL]⟩, fun x hx => i64_of_wf (h4 x (List.mem_of_mem_take hx))⟩
        · have hc' := h7 0 (by omega)
          rw [Addr.add_zero'] at hc'
          have hsp' : a'.spot = none := World.cell?_spot hc'
          obtain ⟨bl', of', sp'⟩ := a'
          simp only at hsp'
          subst hsp'
          refine ⟨_, bl', hc, .inl (block_lt_of_cell hc'), .inr ⟨of', C i, by rw [hA, elen], by rw [elen]; exact h1, h2, fun j hj => ?_⟩, fun x hx => i64_of_wf (h4 x (List.mem_of_mem_take hx))⟩
          rw [elen] at hj
          have := h7 j (by omega)
          rw [Addr.add_lit] at this
          rw [this]
          simp [nth, List.getD, hj]
end
end Go.Proofs.YtnglhfeialomgaaGreatDoor
/- An argument of type [][]string, opened. -/
namespace Go.Proofs.YtnglhfeialomgaaGreatDoor
open Go.ChangeShapes Go.WideShapes Go.ChangeAt Go.RowKit Go.WideElems Go.Deep
theorem cellsStrL : Tryz.prog.cellsOf 30 = 1 := by kernel_rfl
theorem cellsStr : Tryz.prog.cellsOf 9 = 1 := by kernel_rfl
theorem mk_data (s : ByteArray) : Pa.mk s.data.toList = s := by
  apply ByteArray.ext
  simp [Pa.mk]
theorem spot_noneT {w : World} {a : Addr} {x : Value} (h : w.cell? a = some x) : a = ⟨a.block, a.off, none⟩ := by
  have hsp : a.spot = none := World.cell?_spot h
  obtain ⟨bl, of, sp⟩ := a
  simp only at hsp
  subst hsp
  rfl
section
variable {H : Type} {enc : TypeId × Value → H} {W : World}
theorem open_text {fuel : Nat} {v : Value} {x : DataW H × List MemPlace} (h : DataW.trod enc Tryz.prog W 0 (fun _ => true) true fuel 30 [v] = some x) : ∃ g l, SlR strE W v g l := by
  rcases open_strs Tryz.underlying30 Tryz.underlying9 cellsStr h with ⟨hcs, _⟩ | ⟨a, len, cap, m, Sx, hcs, _, hl, hm, hmm, _, hc⟩
  · simp only [List.cons.injEq, and_true] at hcs
    subst hcs
    exact ⟨0, [], .inl ⟨rfl, _, _, rfl⟩⟩
  · simp only [List.cons.injEq, and_true] at hcs
    subst hcs
    have hm' : m = cap := by simpa using hmm
    by_cases h0 : len = 0
    · subst h0; exact ⟨0, [], .inl ⟨rfl, _, _, rfl⟩⟩
    · have hc0 := (hc 0 (by omega)).1
      rw [Addr.add_zero'] at hc0
      have hsp := spot_noneT hc0
      have hlen : ((List.range len).map fun j => (Sx j).data.toList).length = len := by simp
      refine ⟨a.block, (List.range len).map fun j => (Sx j).data.toList, .inr ⟨a.off, cap, by rw [hlen, ← hsp], by rw [hlen]; exact hl, hm, fun i hi r hr => ?_⟩⟩
      rw [hlen] at hi
      have hr : r < 1 := hr
      obtain rfl : r = 0 := by omega
      have := (hc i (by omega)).1
      rw [hsp, Addr.add_lit] at this
      rw [show a.off + i * strE.k + 0 = a.off + i from by show a.off + i * 1 + 0 = _; omega, this]
      simp [strE, mk_data]
theorem open_texts {a0 : Option Addr} {len cap fuel : Nat} {x : DataW H × List MemPlace} (h : DataW.trod enc Tryz.prog W 0 (fun _ => true) true fuel 22 [.slice a0 len cap] = some x) : ∃ ls, RwT W (.slice a0 len cap) ls := by
  rcases open_slice1 Tryz.underlying22 cellsStrL h with ⟨hcs, _⟩ | ⟨a, len', cap', m, n, V, D, Pl, hcs, _, hl, hm, hmm, _, hx⟩
  · simp only [List.cons.injEq, Value.slice.injEq, and_true] at hcs
    obtain ⟨rfl, rfl, rfl⟩ := hcs
    exact ⟨[], none, 0, 0, 0, rfl, by simp, by simp, by simp⟩
  · simp only [List.cons.injEq, Value.slice.injEq, and_true] at hcs
    obtain ⟨rfl, rfl, rfl⟩ := hcs
    have hm' : m = cap := by simpa using hmm
    have hrow : ∀ i, i < len → ∃ gl : Nat × List (List UInt8), SlR strE W (V i) gl.1 gl.2 := fun i hi => by
      obtain ⟨g, l, hs⟩ := open_text (hx i (by omega)).2
      exact ⟨(g, l), hs⟩
    obtain ⟨GL, hGL⟩ := choose_lt hrow
    have hlen : ((List.range len).map fun i => (GL i).2).length = len := by simp
    refine ⟨(List.range len).map fun i => (GL i).2, some a, a.block, a.off, cap, by rw [hlen], by rw [hlen]; unfold maxLen at hm; omega, fun h0 => ?_, fun i hi => ?_⟩
    · rw [hlen] at h0
      have hc := (hx 0 (by omega)).1
      rw [Addr.add_zero'] at hc
      exact congrArg some (spot_noneT hc)
    · rw [hlen] at hi
      have hc := (hx i (by omega)).1
      have hc0 := (hx 0 (by omega)).1
      rw [Addr.add_zero'] at hc0
      rw [spot_noneT hc0, Addr.add_lit] at hc
      refine ⟨V i, (GL i).1, hc, ?_⟩
      simpa using hGL i hi
end
end Go.Proofs.YtnglhfeialomgaaGreatDoor

/- TreePlays: for every input the answer is true and each argument reads behind the call as it read before, the variable errors.errorType holding what the program's text lays (tied: the card). No other condition. -/
namespace Go.Proofs.YtnglhfeialomgaaGreatDoor.TpPlaysC
open Go.ChangeShapes Go.WideShapes Go.ChangeAt Go.RowKit

theorem own : ownKnob Tryz.prog.godebug = none := by kernel_rfl
theorem laidOut : laidOutB Tryz.prog = true := by kernel_rfl
theorem et : Tryz.prog.globalNamed "errors.errorType" = some 0 := by kernel_rfl
theorem rt : (Tryz.prog.cutTypes.find? (·.1 == "internal/reflectlite.rtype")).map (·.2) = some 126 := by kernel_rfl
theorem oneRow : ((List.range 197).filter fun t => Tryz.prog.rowNamed t [101, 114, 114, 111, 114]) = [39] := by kernel_rfl
theorem size : Tryz.prog.types.size = 197 := by kernel_rfl
/-- WHAT THE CONDITION GIVES A WALK: the variable's one cell. -/
theorem handle_of_laid {W : World} (h : laidMetH Tryz.prog Rows.treePlaysRow.laid W) : ErrType W := by
  have h' : laidMet Tryz.prog (Rows.treePlaysRow.laid.filter fun x => x.2.handleName?.isNone) W ∧ handlesMet Tryz.prog (Rows.treePlaysRow.laid.filter fun x => x.2.handleName?.isSome) W := h
  have hmem : ("errors.errorType", (Rows.laid_errors_errorType : DataW Unit)) ∈ Rows.treePlaysRow.laid.filter fun x => x.2.handleName?.isSome := List.mem_filter.2 ⟨by simp [Rows.treePlaysRow], rfl⟩
  obtain ⟨name, u, ty, e1, e2, e3, e4, e5⟩ := h'.2 _ hmem
  have en : name = [101, 114, 114, 111, 114] := (Option.some.inj e1).symm
  subst en
  obtain rfl := Option.some.inj (rt.symm.trans e2)
  have hm : ty ∈ (List.range 197).filter fun t => Tryz.prog.rowNamed t [101, 114, 114, 111, 114] := List.mem_filter.2 ⟨List.mem_range.2 (by rw [← size]; exact e3), e4⟩
  rw [oneRow] at hm
  obtain rfl := List.mem_singleton.1 hm
  have hh : typeHandle Tryz.prog 39 = .pointer (some ⟨4, 39, none⟩) := by kernel_rfl
  rw [hh] at e5
  simpa [ErrType] using World.var?_cell et e5 0

/-- A world that meets the condition: the settled one, the two tables laid. -/
noncomputable def laidWorld (os : Os) : World :=
  let w0 := World.holding Tryz.prog os ⟨#[], #[], []⟩
  { w0 with heap := ((w0.heap.modify 0 fun
      | .cells _ t frozen => .cells #[.iface 126 (.agg #[.pointer (some ⟨4, 39, none⟩)])] t frozen
      | o => o).modify 2 fun
      | .cells _ t frozen => .cells (Go.Pinned.utf8FirstZ.map fun n : Nat => Value.int .u8 (n : Int)).toArray t frozen
      | o => o).modify 3 fun
      | .cells _ t frozen => .cells (([128, 191, 160, 191, 128, 159, 144, 191, 128, 143] ++ List.replicate 22 0).map fun n : Nat => Value.int .u8 (n : Int)).toArray t frozen
      | o => o }
theorem laidWorld_met (os : Os) (args : Array Value) : laidMetH Tryz.prog Rows.treePlaysRow.laid ((laidWorld os).forCall (fun _ _ => 0) ⟨#[], args, []⟩).memory :=
  laidMetH_of_parts (laidMet_of_run' 300 (by kernel_rfl) (by kernel_rfl)) (by kernel_rfl)

set_option maxRecDepth 100000 in
theorem lifted (os : Os) (started : os.Started) (H : Type) (enc : TypeId × Value → H) :
    ReturnsInHanded {} Tryz.checked os 3 .any (fun w args => (Rows.treePlaysSpec.pre enc Tryz.prog Tryz.f3 [] false w args ∧ laidMetH Tryz.prog Rows.treePlaysRow.laid w) ∧ sizedMet enc Tryz.prog Tryz.f3 (OpenSpec.ofChange Rows.treePlaysSpec) false w args)
      (Rows.treePlaysSpec.post enc Tryz.prog Tryz.f3 false true false false) := by
  refine returnsInHanded_of_change_and (C := Tryz.checked) (X := fun w _ => laidMetH Tryz.prog Rows.treePlaysRow.laid w) (fun _ _ _ hh h => h.of_heap hh) own started (by kernel_rfl) Tryz.func3
    (ChangeSpec.witness_at (enc := enc) (C := Tryz.checked) (os := os) (X := fun w _ => laidMetH Tryz.prog Rows.treePlaysRow.laid w) false (laidWorld os) #[.slice none 0 0, .string ByteArray.empty] 8 rfl (by kernel_rfl) (by kernel_rfl) (by kernel_rfl) (by kernel_rfl) (by kernel_rfl) (laidWorld_met os _)) ?_
  intro W base args ds gs before hval0 hW _ hwt hL _
  have hE := handle_of_laid hL
  have hval : ∀ (j : Nat) t v, Tryz.f3.params[j]? = some t → args[j]? = some v → Value.okWide Tryz.prog W .any base t v := hval0
  have hW' := hW
  obtain ⟨p, q, hA0, hV, rfl, hfz, hnd⟩ := hW
  have hA : DataW.TrodAll enc Tryz.prog W 0 (fun _ => true) true Tryz.f3.params.toList args.toList ds p := hA0
  rw [Tryz.params3] at hA hval
  obtain ⟨v0, vs0, d0, ds0, p0, q0, hargs, rfl, rfl, h0, r0⟩ := trodAll_cons hA
  obtain ⟨v1, vs1, d1, ds1, p1, q1, rfl, rfl, rfl, h1, r1⟩ := trodAll_cons r0
  obtain ⟨rfl, rfl, rfl⟩ := trodAll_nil r1
  obtain rfl : args = #[v0, v1] := by cases args; simp_all
  obtain ⟨rfl, rfl⟩ := trodVars_none hV
  obtain ⟨a0, len0, cap0, rfl⟩ := okWide_slice Tryz.underlying22 (hval 0 22 v0 rfl rfl)
  obtain ⟨fuel0, hf0⟩ := h0
  obtain ⟨ls0, hR0⟩ := open_texts hf0
  obtain ⟨x1, rfl, rfl, rfl, ws1⟩ := Go.ChangeMaps.open_string Tryz.underlying9 (hval 1 9 v1 rfl rfl) h1
  refine (tp_plays W _ _ hR0 x1 hE).mono fun e W' ⟨he, hb⟩ => ?_
  subst he
  exact ⟨_, rfl, law_post (tb := 4) laidOut rfl hW' rfl (by rw [Tryz.params3]; exact of_decide_eq_true (by kernel_rfl)) rfl Tryz.underlying4 hb.below⟩

theorem said : Rows.TreePlaysSaid :=
  OpenClaim.holds_of_wide 3 Tryz.f3 rfl rfl rfl rfl rfl rfl rfl ⟨rfl, rfl, rfl, rfl, rfl⟩ rfl rfl rfl rfl rfl (by kernel_rfl) Tryz.func3 (by kernel_rfl)
    (of_decide_eq_true (by kernel_rfl)) (by unfold Func.isWrapper; first | (rw [if_pos (by decide +kernel)]; kernel_rfl) | (rw [if_neg (by decide +kernel)]; exact ⟨rfl, rfl⟩))
    (fun os started H enc _ => lifted os started H enc)

/-- No parameter wants a stand-in; the program's own looks are on: what the card asks. -/
theorem plain (f : FuncId) (fn : Func) (hf : Tryz.pinned.checked.prog.funcNamed "platterhold/platterholdlaw2.TreePlays" = some f) (hfn : Tryz.pinned.checked.prog.funcs[f]? = some fn) :
    true = Tryz.pinned.checked.prog.looks [] ∧ ∀ (j : Nat) t, fn.params[j]? = some t → Tryz.pinned.checked.prog.wantsStandIn t = false := by
  obtain rfl : f = 3 := Option.some.inj ((show Tryz.prog.funcNamed "platterhold/platterholdlaw2.TreePlays" = some 3 by kernel_rfl).symm.trans hf) |>.symm
  obtain rfl : fn = Tryz.f3 := (Option.some.inj (Tryz.func3.symm.trans hfn)).symm
  refine ⟨by kernel_rfl, fun j t ht => ?_⟩
  rw [Tryz.params3] at ht
  have hm : t ∈ [22, 9] := by simpa using Array.mem_of_getElem? ht
  exact (show ∀ x ∈ [22, 9], Tryz.prog.wantsStandIn x = false from of_decide_eq_true (by kernel_rfl)) t hm

/-- THE CARD. -/
theorem proved : Rows.TreePlaysCardSaid :=
  Claim7.holds_tied_plain_at .later [] _ _ _ _ said (fun _ h => by cases h) (by kernel_rfl) (fun _ h => by cases h) treePlays_row_tie rfl ⟨rfl, rfl⟩ (by kernel_rfl) rfl plain (by kernel_rfl)
end Go.Proofs.YtnglhfeialomgaaGreatDoor.TpPlaysC
