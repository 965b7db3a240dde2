/- How a law's row is closed: its arguments read again in a world in which nothing old has turned; rows of integers opened. -/
import Derived.Test.YtnglhfeialomgaaDoorRows
import Derived.Test.YtnglhfeialomgaaDoorBase
import Derived.ProofKit
import Derived.OpenShut
import Derived.JoinedCond
import Derived.WideKeyArgs
namespace Go.Proofs.YtnglhfeialomgaaDoor
open Go.ChangeShapes Go.WideShapes Go.ChangeAt Go.RowKit Go.WideElems Go.Deep

section
variable {H : Type} {enc : TypeId × Value → H} {P : Program}
theorem post_of_below {f : Func} {s : ChangeSpec} {apart fresh handsOn again : Bool} {W W' : World} {args : Array Value} {v : Value} {ds gs : List (DataW H)} {before pa pv : List MemPlace}
    (hW : DataW.Whole enc P f.params.toList s.vars apart W args.toList ds gs before)
    (hres : ∀ (b : Nat) (sp : Nat → Bool) (hd : Bool), DataW.TrodAll enc P W' b sp hd f.resultTypes.toList (v.resultList f.resultTypes.size) (s.fn H (ds ++ gs)).results [])
    (hargs : ∀ sp : Nat → Bool, (∀ p ∈ before, sp p.block = true) → DataW.TrodAll enc P W' 0 sp true f.params.toList args.toList (s.fn H (ds ++ gs)).args pa)
    (hvars : ∀ sp : Nat → Bool, (∀ p ∈ before, sp p.block = true) → DataW.TrodVars enc P W' sp s.vars (s.fn H (ds ++ gs)).vars pv)
    (hps : before = pa ++ pv) (hb : Below W.heap.size W W')
    (hok : ∀ (j : Nat) (t : TypeId) (r : Value), f.resultTypes[j]? = some t → (v.resultList f.resultTypes.size)[j]? = some r → Value.okWide P W' .any 0 t r) :
    s.post enc P f apart fresh handsOn again W args v W' := by
  have hlt : ∀ p ∈ before, p.block < W.heap.size := fun p hp => hW.lt p hp
  have hold : ∀ p ∈ before, (fun b => decide (b < W.heap.size)) p.block = true := fun p hp => by simpa using hlt p hp
  refine ⟨ds, gs, before, [], pa, pv, hW, hres _ _ _, hargs _ hold, hvars _ hold, World.keptBut_mono (fun p hp => ⟨hp, ?_⟩) (hb.frame (· ∈ before)), fun _ => ?_⟩
  · rw [hps, List.mem_append] at hp
    exact Or.inr hp
  · obtain ⟨_, _, _, _, _, hz, hn⟩ := hW
    refine ⟨hok, _, _, ([] ++ pa) ++ pv, ⟨[] ++ pa, pv, trodAll_append (hargs _ (fun _ _ => rfl)) (hres _ _ _), hvars _ (fun _ _ => rfl), rfl, ?_, ?_⟩, ?_⟩
    · intro b off hp
      have hin : MemPlace.cell b off ∈ before := by rw [hps]; simpa using hp
      rw [hb.frozen (hlt _ hin)]
      exact hz b off hin
    · intro ha
      have := hn ha
      rw [hps] at this
      simpa using this
    · intro p hp _
      rw [hps]
      simpa using hp

theorem trodAll_stays (hl : laidOutB P = true) {W W' : World} {sp' : Nat → Bool} (hs : ∀ p : MemPlace, p.block < W.heap.size → W.sameAt W' p) :
    ∀ (ts : List TypeId) (vs : List Value) (ds : List (DataW H)) (ps : List MemPlace), (∀ t ∈ ts, P.readableRec t = true ∧ t < P.types.size) →
      DataW.TrodAll enc P W 0 (fun _ => true) true ts vs ds ps → (∀ p ∈ ps, p.block < W.heap.size ∧ sp' p.block = true) → DataW.TrodAll enc P W' 0 sp' true ts vs ds ps
  | [], [], [], _, _, h, _ => h
  | t :: ts, v :: vs, d :: ds, _, ht, ⟨p, q, h1, h2, e⟩, hp => by
    subst e
    exact ⟨p, q, Trod_stays hl (ht t (by simp)).1 (ht t (by simp)).2 h1 (fun x hx => hs x (hp x (by simp [hx])).1) (fun x hx => (hp x (by simp [hx])).2),
      trodAll_stays hl hs ts vs ds q (fun x hx => ht x (by simp [hx])) h2 (fun x hx => hp x (by simp [hx])), rfl⟩
  | [], _ :: _, _, _, _, h, _ => h.elim
  | [], [], _ :: _, _, _, h, _ => h.elim
  | _ :: _, [], _, _, _, h, _ => h.elim
  | _ :: _, _ :: _, [], _, _, h, _ => h.elim

/-- A law's end: true, and nothing that was there has turned. -/
theorem law_post {f : Func} {s : ChangeSpec} {W W' : World} {args : Array Value} {ds : List (DataW H)} {before : List MemPlace} {tb : TypeId}
    (hl : laidOutB P = true) (hv : s.vars = []) (hW : DataW.Whole enc P f.params.toList s.vars false W args.toList ds [] before)
    (hs : s.fn H (ds ++ []) = { results := [.lit (.bool true)], args := ds })
    (ht : ∀ t ∈ f.params.toList, P.readableRec t = true ∧ t < P.types.size) (hr : f.resultTypes = #[tb]) (hu : P.underlying tb = some .bool) (hb : Below W.heap.size W W') :
    s.post enc P f false true false false W args (.bool true) W' := by
  have hlt : ∀ p ∈ before, p.block < W.heap.size := fun p hp => hW.lt p hp
  have hW' := hW
  obtain ⟨p, q, hA, hV, rfl, _, _⟩ := hW
  rw [hv] at hV
  have hq : q = [] := by simpa [DataW.TrodVars] using hV
  subst hq
  have e1 : (s.fn H (ds ++ [])).results = [.lit (.bool true)] := by rw [hs]
  have e2 : (s.fn H (ds ++ [])).args = ds := by rw [hs]
  have e3 : (s.fn H (ds ++ [])).vars = [] := by rw [hs]
  refine post_of_below (pa := p) (pv := []) hW' ?_ ?_ ?_ rfl hb ?_
  · intro b sp hd
    rw [e1, hr]
    exact trodAll_mk1 (shut_bool hu true)
  · intro sp hsp
    rw [e2]
    exact trodAll_stays hl (fun x hx => hb.same hx) _ _ _ _ ht hA (fun x hx => ⟨hlt x (by simp [hx]), hsp x (by simp [hx])⟩)
  · intro sp _
    rw [e3, hv]
    rfl
  · exact ok_one hr rfl (okWide_bool_mk hu true)
end

/-! ### Arguments opened -/
theorem i64_of_wf {x : Int} (h : (Lit.int .i64 x).wf = true) : I64 x := by
  simp [Lit.wf, IntKind.min, IntKind.max, IntKind.signed, IntKind.bits] at h
  exact ⟨by omega, by omega⟩
section
variable {H : Type} {enc : TypeId × Value → H} {P : Program}
/-- A list of lists of integers that came in. -/
theorem open_rows {t e q : TypeId} {W : World} {a0 : Option Addr} {len cap fuel : Nat} {x : DataW H × List MemPlace} (ht : P.underlying t = some (.slice e)) (he : P.underlying e = some (.slice q)) (hq : P.underlying q = some (.int .i64))
    (ce : P.cellsOf e = 1) (cq : P.cellsOf q = 1) (h : DataW.trod enc P W 0 (fun _ => true) true fuel t [.slice a0 len cap] = some x) : ∃ ls, Rw W.heap.size W (.slice a0 len cap) ls := by
  rcases open_int_rows ht he hq ce cq h with ⟨hcs, _⟩ | ⟨a, len', cap', A, L, C, Z, hcs, _, hl, hm, _, hrows⟩
  · simp only [List.cons.injEq, Value.slice.injEq, and_true] at hcs
    obtain ⟨rfl, rfl, rfl⟩ := hcs
    exact ⟨[], none, 0, 0, 0, rfl, by simp, by simp, by simp⟩
  · simp only [List.cons.injEq, Value.slice.injEq, and_true] at hcs
    obtain ⟨rfl, rfl, rfl⟩ := hcs
    refine ⟨(List.range len).map fun r => (Z r).take (L r), some a, a.block, a.off, cap, by simp, by simp; unfold maxLen at hm; omega, ⟨fun h0 => ?_, fun i hi => ?_⟩⟩
    · have h0' : 0 < len := by simpa using h0
      have hc := (hrows 0 (by omega)).1
      rw [Addr.add_zero'] at hc
      have hsp : a.spot = none := World.cell?_spot hc
      obtain ⟨bl, of, sp⟩ := a
      simp only at hsp
      subst hsp
      exact ⟨rfl, block_lt_of_cell hc⟩
    · have hi' : i < len := by simpa using hi
      obtain ⟨hc, h1, h2, h3, h4, h5, h6⟩ := hrows i (by omega)
      have hc0 := (hrows 0 (by omega)).1
      rw [Addr.add_zero'] at hc0
      have hsp : a.spot = none := World.cell?_spot hc0
      obtain ⟨bl, of, sp⟩ := a
      simp only at hsp
      subst hsp
      rw [Addr.add_lit] at hc
      have er : nthR ((List.range len).map fun r => (Z r).take (L r)) i = (Z i).take (L i) := by simp [nthR, List.getD, hi']
      have elen : ((Z i).take (L i)).length = L i := by rw [List.length_take, h3]; omega
      rw [er]
      cases hA : A i with
      | none =>
        have hC := h5 hA
        have hL : L i = 0 := by omega
        refine ⟨_, 0, hc, .inr (by rw [hL]; rfl), .inl ⟨by rw [hL]; rfl, _, _, by rw [hL]⟩, fun x hx => i64_of_wf (h4 x (List.mem_of_mem_take hx))⟩
      | some a' =>
        obtain ⟨_, h7⟩ := h6 a' hA
        by_cases hL : L i = 0
        · exact ⟨_, 0, hc, .inr (by rw [hL]; rfl), .inl ⟨by rw [hL]; rfl, _, _, by rw [hL]⟩, fun x hx => i64_of_wf (h4 x (List.mem_of_mem_take hx))⟩
        · have hc' := h7 0 (by omega)
          rw [Addr.add_zero'] at hc'
          have hsp' : a'.spot = none := World.cell?_spot hc'
          obtain ⟨bl', of', sp'⟩ := a'
          simp only at hsp'
          subst hsp'
          refine ⟨_, bl', hc, .inl (block_lt_of_cell hc'), .inr ⟨of', C i, by rw [hA, elen], by rw [elen]; exact h1, h2, fun j hj => ?_⟩, fun x hx => i64_of_wf (h4 x (List.mem_of_mem_take hx))⟩
          rw [elen] at hj
          have := h7 j (by omega)
          rw [Addr.add_lit] at this
          rw [this]
          simp [nth, List.getD, hj]
end
end Go.Proofs.YtnglhfeialomgaaDoor
