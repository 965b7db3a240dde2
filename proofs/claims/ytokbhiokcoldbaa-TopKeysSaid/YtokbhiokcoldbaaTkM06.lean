/- The contract of package cow: Put. -/
import Derived.WalkKit
import Derived.Test.YtokbhiokcoldbaaTkM05
namespace Go.Proofs.Ytokbhiokcoldbaa
open Go.RowKit

set_option maxRecDepth 100000 in
theorem co_Put_err (w : World) (B sb : Nat) (st : List Ct) (v k x : Int) (c : Int) (hS : CoS B w sb st) (hc : Co.putErr st v k x = c) (h0 : c ≠ 0) :
    Calls Try.prog 28 #[.pointer (some ⟨sb, 0, none⟩), .int .i64 v, .int .i64 k, .int .i64 x] w fun e w' => e = .returned (.tuple #[.int .i64 0, .iface 67 (.int .i64 c)]) ∧ Fr [] w w' := by
  have HRT := Lib.hid (co_root w B sb st v hS)
  unfold Co.putErr at hc
  by_cases hv : Co.has st v
  · have hr : coRoot st v = .tuple #[(Co.tree st v).ptr, .nilIface] := if_pos hv
    rw [hr] at HRT
    rw [if_pos hv] at hc
    obtain ⟨u, hu⟩ := (Co.tree st v).ptr_form
    rw [hu] at HRT
    have HL : Hid (Sl (w.alloc (.cells #[.int .i64 k, .int .i64 x] 3)) (.slice (some ⟨w.heap.size, 0, none⟩) 2 2) w.heap.size [k, x]) := sl_new [k, x] (heap_alloc_new w _) (show 2 ≤ maxLen by decide)
    have HF : Hid (Fr [] w (w.alloc (.cells #[.int .i64 k, .int .i64 x] 3))) := (Fr.refl _ _).alloc _
    obtain ⟨ba, hba⟩ : ∃ b, allIn [k, x] 0 1000 = b := ⟨_, rfl⟩
    have HA := Lib.hid (all_any _ _ _ _ 0 1000 HL.out)
    rw [hba] at HA
    by_cases hk : (0 ≤ k ∧ k ≤ 1000) ∧ (0 ≤ x ∧ x ≤ 1000)
    · rw [if_pos hk] at hc
      obtain rfl : ba = true := by rw [← hba]; simp [allIn]; omega
      by_cases hl : 20 < st.length
      · rw [if_pos hl] at hc
        subst hc
        have hlI : (20 : Int) < st.length := by omega
        have hlt := hS.ok.len.2
        obtain ⟨g, c, cc, -, -⟩ := (hS.step HF.out).facts
        clear hr hu hv hk hl hba h0 hS HL
        go_enter Try.func28, Try.ntmps28
        go_wp2_with (first
          | (go_at_call 45; (with_reducible refine useC HRT.out ?_); rintro e w ⟨rfl, rfl⟩)
          | (go_at_call 46; (with_reducible refine useC HA.out ?_); rintro e w2 ⟨rfl, rfl⟩))
        go_ret2
        exact ⟨rfl, HF.out⟩
      · rw [if_neg hl] at hc
        exact absurd hc.symm h0
    · rw [if_neg hk] at hc
      subst hc
      obtain rfl : ba = false := by rw [← hba]; simp [allIn]; omega
      clear hr hu hv hk hba h0 hS HL
      go_enter Try.func28, Try.ntmps28
      go_wp2_with (first
        | (go_at_call 45; (with_reducible refine useC HRT.out ?_); rintro e w ⟨rfl, rfl⟩)
        | (go_at_call 46; (with_reducible refine useC HA.out ?_); rintro e w2 ⟨rfl, rfl⟩))
      go_ret2
      exact ⟨rfl, HF.out⟩
  · have hr : coRoot st v = .tuple #[.pointer none, .iface 67 (.int .i64 1)] := if_neg hv
    rw [hr] at HRT
    rw [if_neg hv] at hc
    subst hc
    clear hr hv h0 hS
    go_enter Try.func28, Try.ntmps28
    go_wp2_with (go_at_call 45; (with_reducible refine useC HRT.out ?_); rintro e w ⟨rfl, rfl⟩)
    go_ret2
    exact ⟨rfl, Fr.refl _ _⟩
def coPair (k x : Int) : Obj := .cells #[.int .i64 k, .int .i64 x] 3
/-- The row has grown, the store holds it. -/
theorem CoS.grow {B : Nat} {w w2 w4 : World} {sb : Nat} {st : List Ct} {T' : Ct} {g c g' c' : Nat} (h : CoS B w sb st) (hb : w.heap[sb]? = some (.cells #[.slice (some ⟨g, 0, none⟩) st.length c] 83 (0, 0)))
    (hf : Fr [] w w2) (hT : CoIn w2 T') (hg : w2.grownBy w4 (some g)) (ho : OwnR ptE w4 B 85 (.slice (some ⟨g', 0, none⟩) (st.length + 1) c') (st ++ [T'])) (hm : g' = g ∨ w2.heap.size ≤ g') (hok : ∀ m, w2.heap.size ≤ m → Co.OK (st ++ [T']) m) :
    w4.heap[sb]? = some (.cells #[.slice (some ⟨g, 0, none⟩) st.length c] 83 (0, 0)) ∧ CoS B (w4.setCell ⟨sb, 0, none⟩ (.slice (some ⟨g', 0, none⟩) (st.length + 1) c')) sb (st ++ [T']) ∧ CoK sb w (w4.setCell ⟨sb, 0, none⟩ (.slice (some ⟨g', 0, none⟩) (st.length + 1) c')) := by
  obtain ⟨g0, c0, cur, q1, q2, q3, q4, q5, -⟩ := h.row
  rw [hb] at q1
  injection q1 with q1
  injection q1 with q1 _ _
  simp only [Array.mk.injEq, List.cons.injEq, Value.slice.injEq, Option.some.injEq, Addr.mk.injEq, and_true, true_and] at q1
  obtain ⟨rfl, rfl⟩ := q1
  have hsb := lt_of_heap hb
  have hgl := lt_of_heap q2
  have hsz := hf.size
  have hg'sb : g' ≠ sb := by rcases hm with rfl | hm; exact q4; omega
  have hfg : Fr [g] w2 w4 := (Fr.refl [g] w2).grown hg (fun x hx => by injection hx with hx; subst hx; simp)
  have hf4 : Fr [g] w w4 := hf.nil.trans hfg
  have hb4 := hf4.get hb (by simpa using Ne.symm q4)
  have hS : Fr [sb] w4 (w4.setCell ⟨sb, 0, none⟩ (.slice (some ⟨g', 0, none⟩) (st.length + 1) c')) := (Fr.refl _ _).setCell (.inl (by simp)) _
  have hf5 : FrP (CoF w sb) w (w4.setCell ⟨sb, 0, none⟩ (.slice (some ⟨g', 0, none⟩) (st.length + 1) c')) := by
    refine ((FrP.refl _ w).step hf4 (fun x hx => .inl ?_)).step hS (fun x hx => .inl (.inl (by simpa using hx)))
    simp only [List.mem_singleton] at hx
    subst hx
    exact .inr ⟨_, by rw [cell_of_row w sb 0 _ _ _ hb]; rfl, rfl⟩
  have keep : ∀ T, CoIn w2 T → CoIn (w4.setCell ⟨sb, 0, none⟩ (.slice (some ⟨g', 0, none⟩) (st.length + 1) c')) T := fun T hT => by
    refine (hT.fr hfg (fun b hbm hbb => ?_)).fr hS (fun b hbm hbb => ?_)
    · simp only [List.mem_singleton] at hbm
      subst hbm
      exact (h.step hf).apart hT b (.inr ⟨_, by rw [cell_of_row w2 sb 0 _ _ _ (hf.get hb (by simp))]; rfl, rfl⟩) hbb
    · simp only [List.mem_singleton] at hbm
      subst hbm
      exact (h.step hf).apart hT b (.inl rfl) hbb
  have hlen : (st ++ [T']).length = st.length + 1 := by rw [List.length_append, List.length_singleton]
  refine ⟨hb4, ⟨h.ge, ⟨.slice (some ⟨g', 0, none⟩) (st.length + 1) c', g', c', by rw [hlen]; exact set_block hb4 _, by rw [hlen], ho.kept hS (fun x hx hq => ?_)⟩, fun T hTm => ?_, hok _ (by simp [World.setCell]; exact hg.size)⟩, hf5, ?_⟩
  · simp only [List.mem_singleton] at hx
    subst hx
    simp [Value.ownBlock] at hq
    exact hg'sb hq
  · rcases List.mem_append.1 hTm with hTm | hTm
    · exact keep T ((h.ins T hTm).step hf)
    · simp only [List.mem_singleton] at hTm
      subst hTm
      exact keep T hT
  · rintro x (rfl | ⟨u, hu, hx⟩)
    · exact .inl (.inl rfl)
    · rw [cell_of_row _ sb 0 _ _ _ (set_block hb4 _)] at hu
      simp at hu
      subst hu
      simp [Value.ownBlock] at hx
      subst hx
      rcases hm with rfl | hm
      · exact .inl (.inr ⟨_, by rw [cell_of_row w sb 0 _ _ _ hb]; rfl, rfl⟩)
      · exact .inr (by omega)
def CoPutOK (B sb : Nat) (st : List Ct) (v k x : Int) (w : World) (e : Ending) (w' : World) : Prop :=
  ∃ N, w.heap.size ≤ N ∧ e = .returned (.tuple #[.int .i64 (st.length : Int), .nilIface]) ∧ CoS B w' sb (st ++ [Co.put (Co.tree st v) N k x]) ∧ CoK sb w w'
set_option maxRecDepth 100000 in
set_option maxHeartbeats 2000000 in
theorem co_Put_ok (w : World) (B sb : Nat) (st : List Ct) (v k x : Int) (hS : CoS B w sb st) (hB : B ≤ w.heap.size) (hc : Co.putErr st v k x = 0) :
    Calls Try.prog 28 #[.pointer (some ⟨sb, 0, none⟩), .int .i64 v, .int .i64 k, .int .i64 x] w (CoPutOK B sb st v k x w) := by
  have HRT := Lib.hid (co_root w B sb st v hS)
  have HC := Lib.hid hc
  unfold Co.putErr at hc
  by_cases hv : Co.has st v
  · have hr : coRoot st v = .tuple #[(Co.tree st v).ptr, .nilIface] := if_pos hv
    rw [hr] at HRT
    rw [if_pos hv] at hc
    by_cases hk : (0 ≤ k ∧ k ≤ 1000) ∧ (0 ≤ x ∧ x ≤ 1000)
    · rw [if_pos hk] at hc
      by_cases hl : 20 < st.length
      · rw [if_pos hl] at hc; cases hc
      · have hlI : ¬ (20 : Int) < st.length := by omega
        have hl0 : (0 : Int) ≤ st.length := by omega
        have hl9 : (st.length : Int) ≤ 20 := by omega
        have HL : Hid (Sl (w.alloc (.cells #[.int .i64 k, .int .i64 x] 3)) (.slice (some ⟨w.heap.size, 0, none⟩) 2 2) w.heap.size [k, x]) := sl_new [k, x] (heap_alloc_new w _) (show 2 ≤ maxLen by decide)
        have HF : Hid (Fr [] w (w.alloc (.cells #[.int .i64 k, .int .i64 x] 3)).drew) := ((Fr.refl _ _).alloc _).drew
        have HA := Lib.hid (all_any _ _ _ _ 0 1000 HL.out)
        rw [show allIn [k, x] 0 1000 = true by simp [allIn]; omega] at HA
        have HIN := Lib.hid ((hS.ins _ (Co.tree_mem hv)).step HF.out)
        have HPT := Lib.hid (co_put k x _ _ HIN.out)
        have hsz : (w.alloc (.cells #[.int .i64 k, .int .i64 x] 3)).drew.heap.size = w.heap.size + 1 := by show (w.alloc _).heap.size = _; simp
        obtain ⟨g, c, cur, q1, q2, q3, q4, q5, -⟩ := (hS.step HF.out).row
        have cc : (w.alloc (.cells #[.int .i64 k, .int .i64 x] 3)).drew.cell? ⟨sb, 0, none⟩ = some (.slice (some ⟨g, 0, none⟩) st.length c) := by rw [cell_of_row _ sb 0 _ _ _ q1]; rfl
        have cc' : (w.alloc (.cells #[.int .i64 k, .int .i64 x] 3)).cell? ⟨sb, 0, none⟩ = some (.slice (some ⟨g, 0, none⟩) st.length c) := cc
        have HST := Lib.hid (hS.step HF.out)
        have HQ1 := Lib.hid q1
        have HQ3 := Lib.hid q3
        have HQ4 := Lib.hid (And.intro q4 (And.intro q5 (lt_of_heap q2)))
        obtain ⟨u, hu⟩ := (Co.tree st v).ptr_form
        rw [hu] at HRT HPT
        have HOKS := Lib.hid hS.ok
        have HBS := Lib.hid hB
        have HOKB := Lib.hid hS
        clear hr hu hv hk hl hc hS HL q1 q2 q3 q4 q5 hB
        go_enter Try.func28, Try.ntmps28
        go_wp2_with (first
          | (go_at_call 45; (with_reducible refine useC HRT.out ?_); rintro e w0 ⟨rfl, rfl⟩)
          | (go_at_call 46; (with_reducible refine useC HA.out ?_); rintro e w1 ⟨rfl, rfl⟩))
        have HQ := Lib.hid (fun W (hW : Fr [] (w0.alloc (.cells #[.int .i64 k, .int .i64 x] 3)).drew W) => hW.cell cc (by simp))
        (refine wp_region_mixp (Fr [] (w0.alloc (coPair k x)).drew ·) (fun _ => True) 11 10 [(1, 0), (1, 1), (1, 2), (1, 3), (0, 4), (1, 5), (1, 6), (1, 7), (2, 8), (2, 9), (3, 10)] (by kernel_rfl) (by kernel_rfl) (Fr.refl _ _) ?_; simp only [pickP, List.map_cons, List.map_nil, List.getD_cons_zero, List.getD_cons_succ, List.drop_succ_cons, List.drop_zero])
        unfold coPair
        (iterate 4 (first | (refine wpMixP_take1 (v := ?_) (by rfl) ?_ ?_; rotate_left; (focus (intro W _; go_simp; (try with_reducible rfl); done)); try simp only [Act.put, List.setIfInBounds_toArray, List.set_cons_zero, List.set_cons_succ]) | (refine wpMixP_leave1 (by rfl) ?_; try simp only [Act.put, List.setIfInBounds_toArray, List.set_cons_zero, List.set_cons_succ])))
        (iterate 1 (first | (refine wpMixP_take (v := ?_) (by rfl) ?_ ?_; rotate_left; (focus (intro W hW; have cc := HQ.out W hW; go_simp; (try with_reducible rfl); done)); try simp only [Act.put, List.setIfInBounds_toArray, List.set_cons_zero, List.set_cons_succ]) | (refine wpMixP_leave (by rfl) ?_; try simp only [Act.put, List.setIfInBounds_toArray, List.set_cons_zero, List.set_cons_succ])))
        (iterate 3 (first | (refine wpMixP_take1 (v := ?_) (by rfl) ?_ ?_; rotate_left; (focus (intro W _; go_simp; (try with_reducible rfl); done)); try simp only [Act.put, List.setIfInBounds_toArray, List.set_cons_zero, List.set_cons_succ]) | (refine wpMixP_leave1 (by rfl) ?_; try simp only [Act.put, List.setIfInBounds_toArray, List.set_cons_zero, List.set_cons_succ])))
        clear cc cc' HQ
        generalize (w0.alloc (.cells #[.int .i64 k, .int .i64 x] 3)).drew = wD at HF HIN HPT hsz HST HQ1 HQ3 HQ4 ⊢
        refine wpMixP_walk ?_
        go_wp2_with (go_at_call 47; (with_reducible refine useC HPT.out ?_); rintro e w2 ⟨rfl, hin, hf, hs2⟩; have HSN := Lib.hid hsz; obtain ⟨T', hT'⟩ : ∃ T', Co.put (Co.tree st v) wD.heap.size k x = T' := ⟨_, rfl⟩; have HT := Lib.hid hT'; rw [hT'] at hin ⊢; obtain ⟨up, hup⟩ := T'.ptr_form; have HUP := Lib.hid hup; rw [hup]; have HI2 := Lib.hid hin; have HF2 := Lib.hid hf; have HS2 := Lib.hid hs2; clear hin hf hs2 hup hT' hsz)
        refine MixPQ.mk (HF2.out) ?_
        refine wpMixP_walk ?_
        go_wp2
        refine MixPQ.mk (HF2.out.alloc _) ?_
        refine wpMixP_turn ?_
        have HSD := Lib.hid (HST.out.step HF2.out)
        have hbw : B ≤ w2.heap.size := by have := HBS.out; have := HF.out.size; have := HF2.out.size; omega
        have hst : st.length < 1000000 := by omega
        have hwe : w2.alloc (.cells #[.pointer up] 85) = w2.alloc (.cells (ptE.enc T').toArray 85) := by
          show _ = w2.alloc (.cells [T'.ptr].toArray _)
          rw [HUP.out]
        have HWE := Lib.hid hwe
        clear hwe
        go_wp2_with (at_builtin; refine wpList_push_enc2 (E := ptE) (y := T') (wr := w2) Try.underlying81 Try.info_ptn rfl (by decide) rfl _ _ rfl B (.slice (some ⟨g, 0, none⟩) st.length c) st rfl HWE.out (HQ3.out.kept HF2.out (by simp)) rfl hst hbw ?_; intro v' w4 h1 h2 h3; obtain ⟨h4, h5⟩ := h1; rcases h5 with ⟨rfl, h6⟩ | ⟨g', cap', cur', rfl, h5⟩; (simp at h6); rw [show (st ++ [T']).length = st.length + 1 from by simp] at h4 h5 ⊢; have hgr := HST.out.grow (T' := T') (g' := g') (c' := cap') HQ1.out HF2.out HI2.out h2 ⟨by rw [h4]; simp, .inr ⟨g', cap', cur', by simp, by simpa using h5⟩⟩ (h3.elim (fun h => .inl (by simpa [Value.ownBlock] using h)) (fun h => .inr (by simp [Value.ownBlock] at h; omega))) (fun m hm => (by rw [← HT.out]; exact HOKS.out.mono (by rw [HSN.out]; omega) |>.put HC.out (by rw [← HS2.out]; exact hm))); have cc := cell_of_row w4 sb 0 _ _ _ hgr.1; have cc : w4.cell? ⟨sb, 0, none⟩ = some (.slice (some ⟨g, 0, none⟩) st.length c) := (by rw [cc]; rfl); have ff := free_block hgr.1 0 none; have HGR := Lib.hid hgr.2; clear h2 h3 h4 h5 hgr)
        refine MixPQ.mk (trivial) ?_
        refine wpMixP_nil ?_
        go_wp2
        go_ret2
        exact ⟨wD.heap.size, by rw [HSN.out]; omega, by simp, by rw [HT.out]; exact HGR.out.1, (CoK.of_fr (HOKB.out) HF.out).trans HGR.out.2⟩
    · rw [if_neg hk] at hc; cases hc
  · rw [if_neg hv] at hc; cases hc
end Go.Proofs.Ytokbhiokcoldbaa
/- Trees of keys whose leaves are all as deep (package btree), in plain Lean: by their depth. No program in sight. -/
namespace Go.Proofs.Ytokbhiokcoldbaa
namespace Bt

/-- A tree of depth d: its keys and, above the leaves, its kids. -/
def T : Nat → Type
  | 0 => List Int
  | d + 1 => List Int × List (T d)
def ks : (d : Nat) → T d → List Int
  | 0, t => t
  | _ + 1, t => t.1
/-- How many keys are below. -/
def lb (x : Int) : List Int → Nat
  | [] => 0
  | y :: r => if y < x then lb x r + 1 else 0
def ins {α : Type} (l : List α) (i : Nat) (x : α) : List α := l.take i ++ x :: l.drop i
/-- Keys between lists. -/
def weave : List Int → List (List Int) → List Int
  | [], ls => ls.headD []
  | k :: r, ls => ls.headD [] ++ k :: weave r ls.tail
/-- All keys, from left to right. -/
def all : (d : Nat) → T d → List Int
  | 0, t => t
  | d + 1, t => weave t.1 (t.2.map (all d))
def hasK (l : List Int) (x : Int) : Bool := l[lb x l]? == some x
def has : (d : Nat) → T d → Int → Bool
  | 0, t, x => hasK t x
  | d + 1, t, x => if hasK t.1 x then true else match t.2[lb x t.1]? with
    | some s => has d s x
    | none => false
/-- A node whose keys are too many is split; the middle one goes up. -/
def cut0 (l : List Int) : List Int × Option (Int × List Int) := if l.length ≤ 4 then (l, none) else (l.take 2, some (l.getD 2 0, l.drop 3))
def cutN {α : Type} (l : List Int) (m : List α) : (List Int × List α) × Option (Int × (List Int × List α)) := if l.length ≤ 4 then ((l, m), none) else ((l.take 2, m.take 3), some (l.getD 2 0, (l.drop 3, m.drop 3)))
def add : (d : Nat) → T d → Int → T d × Option (Int × T d)
  | 0, t, x => cut0 (ins (α := Int) t (lb x t) x)
  | d + 1, t, x => match t.2[lb x t.1]? with
    | none => (t, none)
    | some s => match add d s x with
      | (s', none) => ((t.1, t.2.set (lb x t.1) s'), none)
      | (s', some (up, r)) => cutN (ins t.1 (lb x t.1) up) (ins (t.2.set (lb x t.1) s') (lb x t.1 + 1) r)
/-- Of how many keys the nodes are: lo of the topmost one at least. -/
def Ok : (d : Nat) → Nat → T d → Prop
  | 0, lo, t => lo ≤ List.length (α := Int) t ∧ List.length (α := Int) t ≤ 4
  | d + 1, lo, t => (lo ≤ t.1.length ∧ t.1.length ≤ 4) ∧ t.2.length = t.1.length + 1 ∧ ∀ s ∈ t.2, Ok d 2 s
def Up (l : List Int) : Prop := l.Pairwise (· < ·)
/-- A number into a rising list. -/
def insS (x : Int) : List Int → List Int
  | [] => [x]
  | y :: r => if y < x then y :: insS x r else x :: y :: r
theorem lb_le (x : Int) : ∀ (l : List Int), lb x l ≤ l.length
  | [] => Nat.le_refl _
  | y :: r => by
    have := lb_le x r
    unfold lb
    split <;> simp <;> omega
theorem ins_len {α : Type} (l : List α) (i : Nat) (x : α) (h : i ≤ l.length) : (ins l i x).length = l.length + 1 := by
  unfold ins
  simp only [List.length_append, List.length_take, List.length_cons, List.length_drop]
  omega
theorem insS_append_lt (x : Int) : ∀ (a b : List Int), (∀ y ∈ a, y < x) → insS x (a ++ b) = a ++ insS x b
  | [], _, _ => rfl
  | y :: r, b, h => by
    rw [List.cons_append, insS, if_pos (h y (by simp)), insS_append_lt x r b (fun z hz => h z (by simp [hz]))]
    rfl
theorem insS_append_gt (x : Int) : ∀ (a b : List Int), (∀ y ∈ b, x < y) → insS x (a ++ b) = insS x a ++ b
  | [], [], _ => rfl
  | [], y :: r, h => by
    have := h y (by simp)
    show insS x (y :: r) = x :: y :: r
    rw [insS, if_neg (by omega)]
  | z :: r, b, h => by
    rw [List.cons_append, insS, insS]
    split
    · rw [insS_append_gt x r b h]; rfl
    · rfl
theorem insS_lb (x : Int) : ∀ (l : List Int), insS x l = ins l (lb x l) x
  | [] => rfl
  | y :: r => by
    rw [insS]
    unfold lb
    split
    · rw [insS_lb x r]; rfl
    · rfl
theorem mem_insS (x y : Int) : ∀ (l : List Int), y ∈ insS x l ↔ y = x ∨ y ∈ l
  | [] => by simp [insS]
  | z :: r => by
    rw [insS]
    split
    · simp [mem_insS x y r]; constructor <;> (rintro (h | h | h) <;> simp [h])
    · simp
theorem up_insS (x : Int) : ∀ (l : List Int), Up l → x ∉ l → Up (insS x l)
  | [], _, _ => by simp [insS, Up]
  | y :: r, h, hn => by
    have hh := h
    rw [Up, List.pairwise_cons] at h
    rw [insS]
    split
    · rename_i hy
      rw [Up, List.pairwise_cons]
      refine ⟨fun z hz => ?_, up_insS x r h.2 (fun hm => hn (by simp [hm]))⟩
      rcases (mem_insS x z r).1 hz with rfl | hz
      · exact hy
      · exact h.1 z hz
    · rename_i hy
      have hne : x ≠ y := fun e => hn (by simp [e])
      rw [Up, List.pairwise_cons]
      refine ⟨fun z hz => ?_, hh⟩
      rcases List.mem_cons.1 hz with rfl | hz
      · omega
      · have := h.1 z hz; omega
theorem len_insS (x : Int) : ∀ (l : List Int), (insS x l).length = l.length + 1
  | [] => rfl
  | y :: r => by
    rw [insS]
    split
    · simp [len_insS x r]
    · rfl
/-! ### Keys between lists -/
theorem weave_len : ∀ (k : List Int) (ls : List (List Int)), ls.length = k.length + 1 → (weave k ls).length = k.length + (ls.map List.length).sum
  | [], [l], _ => by simp [weave]
  | k :: r, l :: ls, h => by
    have ih := weave_len r ls (by simpa using h)
    simp only [weave, List.headD_cons, List.tail_cons, List.length_append, List.length_cons, ih, List.map_cons, List.sum_cons]
    omega
theorem mem_weave (x : Int) : ∀ (k : List Int) (ls : List (List Int)), ls.length = k.length + 1 → (x ∈ weave k ls ↔ x ∈ k ∨ ∃ l ∈ ls, x ∈ l)
  | [], [l], _ => by simp [weave]
  | k :: r, l :: ls, h => by
    have ih := mem_weave x r ls (by simpa using h)
    simp only [weave, List.headD_cons, List.tail_cons, List.mem_append, List.mem_cons, ih]
    constructor
    · rintro (h | h | h | ⟨m, h1, h2⟩)
      · exact .inr ⟨l, .inl rfl, h⟩
      · exact .inl (.inl h)
      · exact .inl (.inr h)
      · exact .inr ⟨m, .inr h1, h2⟩
    · rintro ((h | h) | ⟨m, h1 | h1, h2⟩)
      · exact .inr (.inl h)
      · exact .inr (.inr (.inl h))
      · subst h1; exact .inl h2
      · exact .inr (.inr (.inr ⟨m, h1, h2⟩))
/-- A number lies in the list that its place says. -/
theorem insS_weave (x : Int) : ∀ (k : List Int) (ls : List (List Int)), ls.length = k.length + 1 → Up (weave k ls) → x ∉ k → insS x (weave k ls) = weave k (ls.set (lb x k) (insS x (ls.getD (lb x k) [])))
  | [], [l], _, _, _ => by simp [weave, lb]
  | k :: r, l :: ls, h, hu, hn => by
    have hu' : Up (l ++ k :: weave r ls) := hu
    rw [Up, List.pairwise_append, List.pairwise_cons] at hu'
    obtain ⟨h1, ⟨h2, h3⟩, h4⟩ := hu'
    simp only [weave, List.headD_cons, List.tail_cons]
    by_cases hk : k < x
    · have e : lb x (k :: r) = lb x r + 1 := by rw [lb, if_pos hk]
      have ih := insS_weave x r ls (by simpa using h) h3 (fun hm => hn (by simp [hm]))
      rw [e, insS_append_lt x l _ (fun y hy => by have := h4 y hy k (by simp); omega), insS, if_pos hk, ih]
      simp
    · have hkx : x < k := by
        have : x ≠ k := fun e => hn (by simp [e])
        omega
      have e : lb x (k :: r) = 0 := by rw [lb, if_neg hk]
      rw [e, insS_append_gt x l _ (fun y hy => by
        rcases List.mem_cons.1 hy with rfl | hy
        · exact hkx
        · have := h2 y hy; omega)]
      simp
/-- A list is split: its middle goes between. -/
theorem weave_split (u : Int) (a b : List Int) : ∀ (k : List Int) (ls : List (List Int)) (i : Nat), ls.length = k.length + 1 → i ≤ k.length → weave k (ls.set i (a ++ u :: b)) = weave (ins k i u) (ins (ls.set i a) (i + 1) b)
  | [], [l], 0, _, _ => by simp [weave, ins]
  | k :: r, l :: ls, 0, h, _ => by
    cases ls with
    | nil => simp at h
    | cons m ls => simp [weave, ins]
  | k :: r, l :: ls, i + 1, h, hi => by
    have ih := weave_split u a b r ls i (by simpa using h) (by simpa using hi)
    have e1 : ins (k :: r) (i + 1) u = k :: ins r i u := by simp [ins]
    have e2 : ins ((l :: ls).set (i + 1) a) (i + 1 + 1) b = l :: ins (ls.set i a) (i + 1) b := by simp [ins]
    rw [e1, e2]
    simp only [weave, List.set_cons_succ, List.headD_cons, List.tail_cons, ih]
theorem weave_cut : ∀ (k : List Int) (ls : List (List Int)) (i : Nat), ls.length = k.length + 1 → i < k.length → weave k ls = weave (k.take i) (ls.take (i + 1)) ++ k.getD i 0 :: weave (k.drop (i + 1)) (ls.drop (i + 1))
  | k :: r, l :: ls, 0, h, _ => by
    cases ls with
    | nil => simp at h
    | cons m ls => simp [weave]
  | k :: r, l :: ls, i + 1, h, hi => by
    have ih := weave_cut r ls i (by simpa using h) (by simpa using hi)
    simp only [weave, List.take_succ_cons, List.drop_succ_cons, List.headD_cons, List.tail_cons, List.getD_cons_succ]
    rw [ih]
    simp
/-! ### What adding does -/
def fullAll (d : Nat) (p : T d × Option (Int × T d)) : List Int := all d p.1 ++ match p.2 with | none => [] | some (u, r) => u :: all d r
theorem map_set' {α β : Type} (f : α → β) (l : List α) (i : Nat) (x : α) : (l.set i x).map f = (l.map f).set i (f x) := by rw [List.map_set]
theorem map_ins {α β : Type} (f : α → β) (l : List α) (i : Nat) (x : α) : (ins l i x).map f = ins (l.map f) i (f x) := by
  unfold ins
  rw [List.map_append, List.map_cons, List.map_take, List.map_drop]
theorem mem_lb {x : Int} : ∀ {l : List Int}, Up l → (x ∈ l ↔ l[lb x l]? = some x)
  | [], _ => by simp
  | y :: r, h => by
    rw [Up, List.pairwise_cons] at h
    by_cases hy : y < x
    · have e : lb x (y :: r) = lb x r + 1 := by rw [lb, if_pos hy]
      rw [e, List.getElem?_cons_succ, ← mem_lb h.2, List.mem_cons]
      exact ⟨fun hx => hx.resolve_left (by omega), .inr⟩
    · have e : lb x (y :: r) = 0 := by rw [lb, if_neg hy]
      rw [e, List.getElem?_cons_zero, List.mem_cons]
      constructor
      · rintro (hx | hx)
        · rw [hx]
        · have := h.1 x hx; omega
      · intro hx; injection hx with hx; exact .inl hx.symm
theorem up_keys : ∀ (k : List Int) (ls : List (List Int)), ls.length = k.length + 1 → Up (weave k ls) → Up k
  | [], _, _, _ => List.Pairwise.nil
  | k :: r, l :: ls, h, hu => by
    have hu' : Up (l ++ k :: weave r ls) := hu
    rw [Up, List.pairwise_append, List.pairwise_cons] at hu'
    rw [Up, List.pairwise_cons]
    exact ⟨fun y hy => hu'.2.1.1 y ((mem_weave y r ls (by simpa using h)).2 (.inl hy)), up_keys r ls (by simpa using h) hu'.2.1.2⟩
theorem up_kid : ∀ (k : List Int) (ls : List (List Int)), ls.length = k.length + 1 → Up (weave k ls) → ∀ l ∈ ls, Up l
  | [], [l], _, hu, m, hm => by
    simp only [List.mem_singleton] at hm
    subst hm
    exact hu
  | k :: r, l :: ls, h, hu, m, hm => by
    have hu' : Up (l ++ k :: weave r ls) := hu
    rw [Up, List.pairwise_append, List.pairwise_cons] at hu'
    rcases List.mem_cons.1 hm with rfl | hm
    · exact hu'.1
    · exact up_kid r ls (by simpa using h) hu'.2.1.2 m hm
/-- Where a number lies: in the kid of its place, if it is no key. -/
theorem mem_kid (x : Int) : ∀ (k : List Int) (ls : List (List Int)), ls.length = k.length + 1 → Up (weave k ls) → x ∉ k → (x ∈ weave k ls ↔ x ∈ ls.getD (lb x k) [])
  | [], [l], _, _, _ => by simp [weave, lb]
  | k :: r, l :: ls, h, hu, hn => by
    have hu' : Up (l ++ k :: weave r ls) := hu
    rw [Up, List.pairwise_append, List.pairwise_cons] at hu'
    obtain ⟨h1, ⟨h2, h3⟩, h4⟩ := hu'
    have hne : x ≠ k := fun e => hn (by simp [e])
    simp only [weave, List.headD_cons, List.tail_cons, List.mem_append, List.mem_cons]
    by_cases hk : k < x
    · have e : lb x (k :: r) = lb x r + 1 := by rw [lb, if_pos hk]
      rw [e, List.getD_cons_succ, ← mem_kid x r ls (by simpa using h) h3 (fun hm => hn (by simp [hm]))]
      constructor
      · rintro (hx | hx | hx)
        · have := h4 x hx k (by simp); omega
        · omega
        · exact hx
      · intro hx; exact .inr (.inr hx)
    · have e : lb x (k :: r) = 0 := by rw [lb, if_neg hk]
      rw [e, List.getD_cons_zero]
      constructor
      · rintro (hx | hx | hx)
        · exact hx
        · omega
        · have := h2 x hx; omega
      · exact .inl
end Bt
end Go.Proofs.Ytokbhiokcoldbaa
