/- How a law's row is closed: its arguments read again in a world in which nothing old has turned; rows of integers opened. -/
import Derived.Test.YtnglhfeialomgaaDoorRows
import Derived.ProofKit
import Derived.OpenShut
import Derived.JoinedCond
import Derived.WideKeyArgs
import Derived.Test.YtnglhfeialomgaaDoorTq01
import Derived.Test.YtnglhfeialomgaaDoorTq26
namespace Go.Proofs.YtnglhfeialomgaaDoor
open Go.ChangeShapes Go.WideShapes Go.ChangeAt Go.RowKit Go.WideElems Go.Deep

section
variable {H : Type} {enc : TypeId × Value → H} {P : Program}
theorem post_of_below {f : Func} {s : ChangeSpec} {apart fresh handsOn again : Bool} {W W' : World} {args : Array Value} {v : Value} {ds gs : List (DataW H)} {before pa pv : List MemPlace}
    (hW : DataW.Whole enc P f.params.toList s.vars apart W args.toList ds gs before)
    (hres : ∀ (b : Nat) (sp : Nat → Bool) (hd : Bool), DataW.TrodAll enc P W' b sp hd f.resultTypes.toList (v.resultList f.resultTypes.size) (s.fn H (ds ++ gs)).results [])
    (hargs : ∀ sp : Nat → Bool, (∀ p ∈ before, sp p.block = true) → DataW.TrodAll enc P W' 0 sp true f.params.toList args.toList (s.fn H (ds ++ gs)).args pa)
    (hvars : ∀ sp : Nat → Bool, (∀ p ∈ before, sp p.block = true) → DataW.TrodVars enc P W' sp s.vars (s.fn H (ds ++ gs)).vars pv)
    (hps : before = pa ++ pv) (hb : Below W.heap.size W W')
    (hok : ∀ (j : Nat) (t : TypeId) (r : Value), f.resultTypes[j]? = some t → (v.resultList f.resultTypes.size)[j]? = some r → Value.okWide P W' .any 0 t r) :
    s.post enc P f apart fresh handsOn again W args v W' := by
  have hlt : ∀ p ∈ before, p.block < W.heap.size := fun p hp => hW.lt p hp
  have hold : ∀ p ∈ before, (fun b => decide (b < W.heap.size)) p.block = true := fun p hp => by simpa using hlt p hp
  refine ⟨ds, gs, before, [], pa, pv, hW, hres _ _ _, hargs _ hold, hvars _ hold, World.keptBut_mono (fun p hp => ⟨hp, ?_⟩) (hb.frame (· ∈ before)), fun _ => ?_⟩
  · rw [hps, List.mem_append] at hp
    exact Or.inr hp
  · obtain ⟨_, _, _, _, _, hz, hn⟩ := hW
    refine ⟨hok, _, _, ([] ++ pa) ++ pv, ⟨[] ++ pa, pv, trodAll_append (hargs _ (fun _ _ => rfl)) (hres _ _ _), hvars _ (fun _ _ => rfl), rfl, ?_, ?_⟩, ?_⟩
    · intro b off hp
      have hin : MemPlace.cell b off ∈ before := by rw [hps]; simpa using hp
      rw [hb.frozen (hlt _ hin)]
      exact hz b off hin
    · intro ha
      have := hn ha
      rw [hps] at this
      simpa using this
    · intro p hp _
      rw [hps]
      simpa using hp

theorem trodAll_stays (hl : laidOutB P = true) {W W' : World} {sp' : Nat → Bool} (hs : ∀ p : MemPlace, p.block < W.heap.size → W.sameAt W' p) :
    ∀ (ts : List TypeId) (vs : List Value) (ds : List (DataW H)) (ps : List MemPlace), (∀ t ∈ ts, P.readableRec t = true ∧ t < P.types.size) →
      DataW.TrodAll enc P W 0 (fun _ => true) true ts vs ds ps → (∀ p ∈ ps, p.block < W.heap.size ∧ sp' p.block = true) → DataW.TrodAll enc P W' 0 sp' true ts vs ds ps
  | [], [], [], _, _, h, _ => h
  | t :: ts, v :: vs, d :: ds, _, ht, ⟨p, q, h1, h2, e⟩, hp => by
    subst e
    exact ⟨p, q, Trod_stays hl (ht t (by simp)).1 (ht t (by simp)).2 h1 (fun x hx => hs x (hp x (by simp [hx])).1) (fun x hx => (hp x (by simp [hx])).2),
      trodAll_stays hl hs ts vs ds q (fun x hx => ht x (by simp [hx])) h2 (fun x hx => hp x (by simp [hx])), rfl⟩
  | [], _ :: _, _, _, _, h, _ => h.elim
  | [], [], _ :: _, _, _, h, _ => h.elim
  | _ :: _, [], _, _, _, h, _ => h.elim
  | _ :: _, _ :: _, [], _, _, h, _ => h.elim

/-- A law's end: true, and nothing that was there has turned. -/
theorem law_post {f : Func} {s : ChangeSpec} {W W' : World} {args : Array Value} {ds : List (DataW H)} {before : List MemPlace} {tb : TypeId}
    (hl : laidOutB P = true) (hv : s.vars = []) (hW : DataW.Whole enc P f.params.toList s.vars false W args.toList ds [] before)
    (hs : s.fn H (ds ++ []) = { results := [.lit (.bool true)], args := ds })
    (ht : ∀ t ∈ f.params.toList, P.readableRec t = true ∧ t < P.types.size) (hr : f.resultTypes = #[tb]) (hu : P.underlying tb = some .bool) (hb : Below W.heap.size W W') :
    s.post enc P f false true false false W args (.bool true) W' := by
  have hlt : ∀ p ∈ before, p.block < W.heap.size := fun p hp => hW.lt p hp
  have hW' := hW
  obtain ⟨p, q, hA, hV, rfl, _, _⟩ := hW
  rw [hv] at hV
  have hq : q = [] := by simpa [DataW.TrodVars] using hV
  subst hq
  have e1 : (s.fn H (ds ++ [])).results = [.lit (.bool true)] := by rw [hs]
  have e2 : (s.fn H (ds ++ [])).args = ds := by rw [hs]
  have e3 : (s.fn H (ds ++ [])).vars = [] := by rw [hs]
  refine post_of_below (pa := p) (pv := []) hW' ?_ ?_ ?_ rfl hb ?_
  · intro b sp hd
    rw [e1, hr]
    exact trodAll_mk1 (shut_bool hu true)
  · intro sp hsp
    rw [e2]
    exact trodAll_stays hl (fun x hx => hb.same hx) _ _ _ _ ht hA (fun x hx => ⟨hlt x (by simp [hx]), hsp x (by simp [hx])⟩)
  · intro sp _
    rw [e3, hv]
    rfl
  · exact ok_one hr rfl (okWide_bool_mk hu true)
end

/-! ### Arguments opened -/
theorem i64_of_wf {x : Int} (h : (Lit.int .i64 x).wf = true) : I64 x := by
  simp [Lit.wf, IntKind.min, IntKind.max, IntKind.signed, IntKind.bits] at h
  exact ⟨by omega, by omega⟩
section
variable {H : Type} {enc : TypeId × Value → H} {P : Program}
/-- A list of lists of integers that came in. -/
theorem open_rows {t e q : TypeId} {W : World} {a0 : Option Addr} {len cap fuel : Nat} {x : DataW H × List MemPlace} (ht : P.underlying t = some (.slice e)) (he : P.underlying e = some (.slice q)) (hq : P.underlying q = some (.int .i64))
    (ce : P.cellsOf e = 1) (cq : P.cellsOf q = 1) (h : DataW.trod enc P W 0 (fun _ => true) true fuel t [.slice a0 len cap] = some x) : ∃ ls, Rw W.heap.size W (.slice a0 len cap) ls := by
  rcases open_int_rows ht he hq ce cq h with ⟨hcs, _⟩ | ⟨a, len', cap', A, L, C, Z, hcs, _, hl, hm, _, hrows⟩
  · simp only [List.cons.injEq, Value.slice.injEq, and_true] at hcs
    obtain ⟨rfl, rfl, rfl⟩ := hcs
    exact ⟨[], none, 0, 0, 0, rfl, by simp, by simp, by simp⟩
  · simp only [List.cons.injEq, Value.slice.injEq, and_true] at hcs
    obtain ⟨rfl, rfl, rfl⟩ := hcs
    refine ⟨(List.range len).map fun r => (Z r).take (L r), some a, a.block, a.off, cap, by simp, by simp; unfold maxLen at hm; omega, ⟨fun h0 => ?_, fun i hi => ?_⟩⟩
    · have h0' : 0 < len := by simpa using h0
      have hc := (hrows 0 (by omega)).1
      rw [Addr.add_zero'] at hc
      have hsp : a.spot = none := World.cell?_spot hc
      obtain ⟨bl, of, sp⟩ := a
      simp only at hsp
      subst hsp
      exact ⟨rfl, block_lt_of_cell hc⟩
    · have hi' : i < len := by simpa using hi
      obtain ⟨hc, h1, h2, h3, h4, h5, h6⟩ := hrows i (by omega)
      have hc0 := (hrows 0 (by omega)).1
      rw [Addr.add_zero'] at hc0
      have hsp : a.spot = none := World.cell?_spot hc0
      obtain ⟨bl, of, sp⟩ := a
      simp only at hsp
      subst hsp
      rw [Addr.add_lit] at hc
      have er : nthR ((List.range len).map fun r => (Z r).take (L r)) i = (Z i).take (L i) := by simp [nthR, List.getD, hi']
      have elen : ((Z i).take (L i)).length = L i := by rw [List.length_take, h3]; omega
      rw [er]
      cases hA : A i with
      | none =>
        have hC := h5 hA
        have hL : L i = 0 := by omega
        refine ⟨_, 0, hc, .inr (by rw [hL]; rfl), .inl ⟨by rw [hL]; rfl, _, _, by rw [hL]⟩, fun x hx => i64_of_wf (h4 x (List.mem_of_mem_take hx))⟩
      | some a' =>
        obtain ⟨_, h7⟩ := h6 a' hA
        by_cases hL : L i = 0
        · exact ⟨_, 0, hc, .inr (by rw [hL]; rfl), .inl ⟨by rw [hL]; rfl, _, _, by rw [hL]⟩, fun x hx => i64_of_wf (h4 x (List.mem_of_mem_take hx))⟩
        · have hc' := h7 0 (by omega)
          rw [Addr.add_zero'] at hc'
          have hsp' : a'.spot = none := World.cell?_spot hc'
          obtain ⟨bl', of', sp'⟩ := a'
          simp only at hsp'
          subst hsp'
          refine ⟨_, bl', hc, .inl (block_lt_of_cell hc'), .inr ⟨of', C i, by rw [hA, elen], by rw [elen]; exact h1, h2, fun j hj => ?_⟩, fun x hx => i64_of_wf (h4 x (List.mem_of_mem_take hx))⟩
          rw [elen] at hj
          have := h7 j (by omega)
          rw [Addr.add_lit] at this
          rw [this]
          simp [nth, List.getD, hj]
end
end Go.Proofs.YtnglhfeialomgaaDoor
/- did, grown. -/
namespace Go.Proofs.YtnglhfeialomgaaDoor
open Go.RowKit

def KeepL (w0 : World) (tb : Nat) (g : Tr.G) (dom : Nat → Prop) (K : Nat) (e : Ending) (w' : World) : Prop := e = .returned .nilIface ∧ TrL w0 w' tb g dom K
/-- What a step does. -/
def DidL (w0 : World) (tb : Nat) (g : Tr.G) (dom : Nat → Prop) (K : Nat) : List (List UInt8) → Ending → World → Prop
  | [a, s] => if a = [100] then MakL w0 tb g dom K s true else if a = [102] then MakL w0 tb g dom K s false else if a = [120] then DropL w0 tb g dom K s else KeepL w0 tb g dom K
  | [a, s, t] => if a = [108] then LinkL w0 tb g dom K s t else if a = [109] then MoveL w0 tb g dom K s t else KeepL w0 tb g dom K
  | _ => KeepL w0 tb g dom K
theorem DidL.some {w0 w' : World} {tb K : Nat} {g : Tr.G} {dom : Nat → Prop} {l : List (List UInt8)} {e : Ending} (h : DidL w0 tb g dom K l e w') : ∃ c g' dom', e = .returned (errV c) ∧ TrL w0 w' tb g' dom' (K + 2) := by
  have hm : ∀ {s : List UInt8} {dir : Bool}, MakL w0 tb g dom K s dir e w' → ∃ c g' dom', e = .returned (errV c) ∧ TrL w0 w' tb g' dom' (K + 2) := fun ⟨he, c, o, _, _, hr⟩ => by
    rcases hr with ⟨-, d, x, -, h⟩ | ⟨-, h⟩
    · exact ⟨_, _, _, he, h.mono (by omega)⟩
    · exact ⟨_, _, _, he, h.mono (by omega)⟩
  have hk : KeepL w0 tb g dom K e w' → ∃ c g' dom', e = .returned (errV c) ∧ TrL w0 w' tb g' dom' (K + 2) := fun ⟨he, h⟩ => ⟨0, _, _, he, h.mono (by omega)⟩
  unfold DidL at h
  split at h
  · split at h
    · exact hm h
    · split at h
      · exact hm h
      · split at h
        · obtain ⟨he, ⟨-, d, x, n, -, -, -, h⟩ | ⟨-, h⟩⟩ := h
          · exact ⟨_, _, _, he, h.mono (by omega)⟩
          · exact ⟨_, _, _, he, h.mono (by omega)⟩
        · exact hk h
  · split at h
    · obtain ⟨he, ⟨-, n, d, x, -, -, -, -, h⟩ | ⟨-, h⟩⟩ := h
      · exact ⟨_, _, _, he, h.mono (by omega)⟩
      · exact ⟨_, _, _, he, h.mono (by omega)⟩
    · split at h
      · obtain ⟨he, ⟨-, P, d, x, n, P', d', x', -, -, -, -, h⟩ | ⟨-, h⟩⟩ := h
        · exact ⟨_, _, _, he, h⟩
        · exact ⟨_, _, _, he, h.mono (by omega)⟩
      · exact hk h
  · exact hk h
section
variable (w0 w : World) (tb K : Nat) (g : Tr.G) (dom : Nat → Prop) (hL : TrL w0 w tb g dom K) (hK : K ≤ 99000) (gl : Nat)
include hL hK
set_option maxRecDepth 100000 in
set_option maxHeartbeats 4000000 in
theorem did_2 (a s : List UInt8) (o c : Nat) (_ : 2 ≤ c) (k0 : w.cell? ⟨gl, o, none⟩ = some (.string (Pa.mk a))) (k1 : w.cell? ⟨gl, o + 1, none⟩ = some (.string (Pa.mk s))) :
    Calls Tryd.prog 24 #[.pointer (some ⟨tb, 0, none⟩), .slice (some ⟨gl, o, none⟩) 2 c] w (DidL w0 tb g dom K [a, s]) := by
  have HD := Lib.hid (trl_Dir hL (by omega) (Pa.mk s))
  have HF := Lib.hid (trl_File hL (by omega) (Pa.mk s))
  have HX := Lib.hid (trl_Drop hL (by omega) (Pa.mk s))
  rw [Pa.mk_list] at HD HF HX
  have HL := Lib.hid hL
  have hs : DidL w0 tb g dom K [a, s] = if a = [100] then MakL w0 tb g dom K s true else if a = [102] then MakL w0 tb g dom K s false else if a = [120] then DropL w0 tb g dom K s else KeepL w0 tb g dom K := rfl
  rw [hs]
  clear hL hs
  by_cases h1 : a = [100]
  · rw [if_pos h1]
    have e1 : ((Pa.mk a).toList == [100]) = true := by rw [mk_toList]; exact beq_iff_eq.2 h1
    clear h1 HF HX
    generalize Pa.mk a = ma at *
    generalize Pa.mk s = ms at *
    go_enter Tryd.func24, Tryd.ntmps24
    go_wp2_with (go_at_call 17; (with_reducible refine useC HD.out ?_); intro e w1 h; obtain ⟨v, hv⟩ : ∃ v, e = .returned v := ⟨_, h.1⟩; subst hv; have HR := Lib.hid h; clear h)
    go_ret
    exact HR.out
  · rw [if_neg h1]
    have e1 : ((Pa.mk a).toList == [100]) = false := by rw [mk_toList]; exact beq_eq_false_iff_ne.2 h1
    by_cases h2 : a = [102]
    · rw [if_pos h2]
      have e2 : ((Pa.mk a).toList == [102]) = true := by rw [mk_toList]; exact beq_iff_eq.2 h2
      clear h1 h2 HD HX
      generalize Pa.mk a = ma at *
      generalize Pa.mk s = ms at *
      go_enter Tryd.func24, Tryd.ntmps24
      go_wp2_with (go_at_call 16; (with_reducible refine useC HF.out ?_); intro e w1 h; obtain ⟨v, hv⟩ : ∃ v, e = .returned v := ⟨_, h.1⟩; subst hv; have HR := Lib.hid h; clear h)
      go_ret
      exact HR.out
    · rw [if_neg h2]
      have e2 : ((Pa.mk a).toList == [102]) = false := by rw [mk_toList]; exact beq_eq_false_iff_ne.2 h2
      by_cases h3 : a = [120]
      · rw [if_pos h3]
        have e3 : ((Pa.mk a).toList == [120]) = true := by rw [mk_toList]; exact beq_iff_eq.2 h3
        clear h1 h2 h3 HD HF
        generalize Pa.mk a = ma at *
        generalize Pa.mk s = ms at *
        go_enter Tryd.func24, Tryd.ntmps24
        go_wp2_with (go_at_call 13; (with_reducible refine useC HX.out ?_); intro e w1 h; obtain ⟨v, hv⟩ : ∃ v, e = .returned v := ⟨_, h.1⟩; subst hv; have HR := Lib.hid h; clear h)
        go_ret
        exact HR.out
      · rw [if_neg h3]
        have e3 : ((Pa.mk a).toList == [120]) = false := by rw [mk_toList]; exact beq_eq_false_iff_ne.2 h3
        clear h1 h2 h3 HD HF HX
        generalize Pa.mk a = ma at *
        generalize Pa.mk s = ms at *
        go_enter Tryd.func24, Tryd.ntmps24
        go_wp2_with fail
        go_ret
        exact ⟨rfl, HL.out⟩
set_option maxRecDepth 100000 in
set_option maxHeartbeats 4000000 in
theorem did_3 (a s t : List UInt8) (o c : Nat) (_ : 3 ≤ c) (k0 : w.cell? ⟨gl, o, none⟩ = some (.string (Pa.mk a))) (k1 : w.cell? ⟨gl, o + 1, none⟩ = some (.string (Pa.mk s))) (k2 : w.cell? ⟨gl, o + 2, none⟩ = some (.string (Pa.mk t))) :
    Calls Tryd.prog 24 #[.pointer (some ⟨tb, 0, none⟩), .slice (some ⟨gl, o, none⟩) 3 c] w (DidL w0 tb g dom K [a, s, t]) := by
  have hL' := hL.step (Fr.refl [] w).drew
  have HD := Lib.hid (trl_Link hL' (by omega) (Pa.mk s) (Pa.mk t))
  have HF := Lib.hid (trl_Move hL' (by omega) (Pa.mk s) (Pa.mk t))
  rw [Pa.mk_list, Pa.mk_list] at HD HF
  have HL := Lib.hid hL
  have hs : DidL w0 tb g dom K [a, s, t] = if a = [108] then LinkL w0 tb g dom K s t else if a = [109] then MoveL w0 tb g dom K s t else KeepL w0 tb g dom K := rfl
  rw [hs]
  clear hL hs hL'
  by_cases h1 : a = [108]
  · rw [if_pos h1]
    have e1 : ((Pa.mk a).toList == [108]) = true := by rw [mk_toList]; exact beq_iff_eq.2 h1
    clear h1 HF
    generalize Pa.mk a = ma at *
    generalize Pa.mk s = ms at *
    generalize Pa.mk t = mt at *
    go_enter Tryd.func24, Tryd.ntmps24
    go_wp2_with fail
    (refine wp_region_mixq 7 [(true, 0), (true, 1), (true, 2), (true, 3), (true, 4), (true, 5), (true, 6)] (by kernel_rfl) (by kernel_rfl) ?_; simp only [pickOps, List.map_cons, List.map_nil, List.getD_cons_zero, List.getD_cons_succ, List.drop_succ_cons, List.drop_zero]; (iterate 7 (first | (refine wpMix_take (v := ?_) (by rfl) ?_ ?_; rotate_left; (focus (intro W hW; subst hW; go_simp; (try with_reducible rfl); done)); try simp only [Act.put, List.setIfInBounds_toArray, List.set_cons_zero, List.set_cons_succ]) | (refine wpMix_leave (by rfl) ?_; try simp only [Act.put, List.setIfInBounds_toArray, List.set_cons_zero, List.set_cons_succ]))); refine wpMix_nil ?_)
    go_wp2_with (go_at_call 12; (with_reducible refine useC HD.out ?_); intro e w1 h; obtain ⟨v, hv⟩ : ∃ v, e = .returned v := ⟨_, h.1⟩; subst hv; have HR := Lib.hid h; clear h)
    go_ret
    exact HR.out
  · rw [if_neg h1]
    have e1 : ((Pa.mk a).toList == [108]) = false := by rw [mk_toList]; exact beq_eq_false_iff_ne.2 h1
    by_cases h2 : a = [109]
    · rw [if_pos h2]
      have e2 : ((Pa.mk a).toList == [109]) = true := by rw [mk_toList]; exact beq_iff_eq.2 h2
      clear h1 h2 HD
      generalize Pa.mk a = ma at *
      generalize Pa.mk s = ms at *
      generalize Pa.mk t = mt at *
      go_enter Tryd.func24, Tryd.ntmps24
      go_wp2_with fail
      (refine wp_region_mixq 7 [(true, 0), (true, 1), (true, 2), (true, 3), (true, 4), (true, 5), (true, 6)] (by kernel_rfl) (by kernel_rfl) ?_; simp only [pickOps, List.map_cons, List.map_nil, List.getD_cons_zero, List.getD_cons_succ, List.drop_succ_cons, List.drop_zero]; (iterate 7 (first | (refine wpMix_take (v := ?_) (by rfl) ?_ ?_; rotate_left; (focus (intro W hW; subst hW; go_simp; (try with_reducible rfl); done)); try simp only [Act.put, List.setIfInBounds_toArray, List.set_cons_zero, List.set_cons_succ]) | (refine wpMix_leave (by rfl) ?_; try simp only [Act.put, List.setIfInBounds_toArray, List.set_cons_zero, List.set_cons_succ]))); refine wpMix_nil ?_)
      go_wp2_with (go_at_call 14; (with_reducible refine useC HF.out ?_); intro e w1 h; obtain ⟨v, hv⟩ : ∃ v, e = .returned v := ⟨_, h.1⟩; subst hv; have HR := Lib.hid h; clear h)
      go_ret
      exact HR.out
    · rw [if_neg h2]
      have e2 : ((Pa.mk a).toList == [109]) = false := by rw [mk_toList]; exact beq_eq_false_iff_ne.2 h2
      clear h1 h2 HD HF
      generalize Pa.mk a = ma at *
      generalize Pa.mk s = ms at *
      generalize Pa.mk t = mt at *
      go_enter Tryd.func24, Tryd.ntmps24
      go_wp2_with fail
      go_ret
      exact ⟨rfl, HL.out⟩
omit hK in
set_option maxRecDepth 100000 in
set_option maxHeartbeats 4000000 in
theorem did_n (A : Option Addr) (n c : Nat) (hn : n ≤ 9223372036854775807) (h2 : n ≠ 2) (h3 : n ≠ 3) :
    Calls Tryd.prog 24 #[.pointer (some ⟨tb, 0, none⟩), .slice A n c] w (KeepL w0 tb g dom K) := by
  have HL := Lib.hid hL
  have e2 : ((n : Int) == 2) = false := beq_eq_false_iff_ne.2 (by omega)
  have e3 : ((n : Int) == 3) = false := beq_eq_false_iff_ne.2 (by omega)
  clear hL h2 h3
  go_enter Tryd.func24, Tryd.ntmps24
  go_wp2_with fail
  go_ret
  exact ⟨rfl, HL.out⟩
theorem tr_did (v : Value) (l : List (List UInt8)) (h : SlR strE w v gl l) :
    Calls Tryd.prog 24 #[.pointer (some ⟨tb, 0, none⟩), v] w (DidL w0 tb g dom K l) := by
  obtain ⟨A, o, c, rfl, hm, hcap, hA, hc⟩ := strs_cell h
  match l, hm, hcap, hA, hc with
  | [a, s], hm, hcap, hA, hc =>
    obtain rfl := hA (by simp)
    exact did_2 w0 w tb K g dom hL hK gl a s o c hcap (hc 0 (by simp)) (hc 1 (by simp))
  | [a, s, t], hm, hcap, hA, hc =>
    obtain rfl := hA (by simp)
    exact did_3 w0 w tb K g dom hL hK gl a s t o c hcap (hc 0 (by simp)) (hc 1 (by simp)) (hc 2 (by simp))
  | [], hm, _, _, _ => exact did_n w0 w tb K g dom hL A 0 c hm (by decide) (by decide)
  | [a], hm, _, _, _ => exact did_n w0 w tb K g dom hL A 1 c hm (by decide) (by decide)
  | a :: b :: d :: e :: r, hm, _, _, _ => exact did_n w0 w tb K g dom hL A (a :: b :: d :: e :: r).length c hm (by simp) (by simp)
end
end Go.Proofs.YtnglhfeialomgaaDoor
