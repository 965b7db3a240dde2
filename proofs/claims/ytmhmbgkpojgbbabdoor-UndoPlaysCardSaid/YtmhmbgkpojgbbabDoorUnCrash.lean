/- The contract of package undo's Crash. -/
import Derived.Test.YtmhmbgkpojgbbabDoorUnUndo
import Derived.Test.YtmhmbgkpojgbbabDoorSetAdd
namespace Go.Proofs.YtmhmbgkpojgbbabDoor
open Go.RowKit Go.Shelf
attribute [local go_sem] Oper.semAt_some

theorem KeepsFrom.of_fr {B : Nat} {S : List Nat} {a b : World} (h : Fr S a b) (hS : ∀ x ∈ S, x < B) : KeepsFrom B a b := ⟨h.size, fun k o hB hk _ => h.get hk (fun e => by have := hS k e; omega)⟩
theorem Un.down_foldr {α : Type} (f : α → Un.P → α) (xs : List Un.P) (a : α) : ∀ k, k ≤ xs.length → (Un.down xs.length k).foldl (fun z i => f z (xs[i.1]'i.2)) a = (xs.drop (xs.length - k)).foldr (fun r z => f z r) a
  | 0, _ => by rw [Nat.sub_zero, List.drop_length, Un.down_zero]; rfl
  | k + 1, h => by
    have e2 : xs.length - 1 - k = xs.length - (k + 1) := by omega
    have e1 : xs.length - (k + 1) + 1 = xs.length - k := by omega
    rw [Un.down_fold _ _ _ (by omega), Un.down_foldr f xs a k (by omega), List.drop_eq_getElem_cons (i := xs.length - (k + 1)) (by omega), List.foldr_cons, e1]
    simp only [e2]
/-- What the rounds of Crash do: the blocks, the turns that were seen, how many. -/
structure Un.C where
  blk : List Int
  seen : List Int
  many : Nat
def Un.cstep (z : Un.C) (r : Un.P) : Un.C := ⟨z.blk.set r.b.toNat r.v, z.seen ++ [r.t], z.many + if hasB z.seen r.t then 0 else 1⟩
theorem Un.cfold (blk : List Int) : ∀ l : List Un.P, (l.foldr (fun r z => Un.cstep z r) ⟨blk, [], 0⟩).blk = Un.un Un.all l blk ∧ (∀ t, hasB (l.foldr (fun r z => Un.cstep z r) ⟨blk, [], 0⟩).seen t = l.any (Un.isT t)) ∧ (l.foldr (fun r z => Un.cstep z r) ⟨blk, [], 0⟩).many = Un.cnt l
  | [] => ⟨rfl, fun _ => rfl, rfl⟩
  | r :: l => by
    obtain ⟨h1, h2, h3⟩ := Un.cfold blk l
    rw [List.foldr_cons]
    generalize l.foldr (fun r z => Un.cstep z r) ⟨blk, [], 0⟩ = z at *
    refine ⟨?_, fun t => ?_, ?_⟩
    · show z.blk.set _ _ = Un.un Un.all (r :: l) blk
      rw [h1]
      exact (if_pos rfl).symm
    · show hasB (z.seen ++ [r.t]) t = _
      have h := h2 t
      unfold hasB at h ⊢
      rw [List.contains_append, h, List.any_cons, Bool.or_comm]
      congr 1
      show _ = (r.t == t)
      rw [List.contains_cons, List.contains_nil, Bool.or_false, Bool.beq_comm]
    · show z.many + (if hasB z.seen r.t then 0 else 1) = Un.cnt l + if l.any (Un.isT r.t) then 0 else 1
      rw [h2, h3]
/-- Whose blocks are, when k of them are nobody's. -/
def Un.fill (k : Nat) (l : List Int) : List Int := List.replicate k (-1) ++ l.drop k
theorem Un.fill_len {k : Nat} {l : List Int} (h : k ≤ l.length) : (Un.fill k l).length = l.length := by simp [Un.fill]; omega
theorem Un.fill_set {k : Nat} {l : List Int} (h : k < l.length) : (Un.fill k l).set k (-1) = Un.fill (k + 1) l := by
  unfold Un.fill
  rw [List.set_append_right _ _ (by simp), List.length_replicate, Nat.sub_self, List.drop_eq_getElem_cons h, List.set_cons_zero, List.replicate_succ', List.append_assoc]
  rfl
theorem Un.fill_all {l : List Int} (h : l.length = 8) : Un.fill 8 l = List.replicate 8 (-1) := by
  unfold Un.fill
  rw [List.drop_eq_nil_of_le (by omega), List.append_nil]
theorem UnB.cut {P : Nat → Prop} {w : World} {b : Nat} {lv : Value} {d : Un.D} (h : UnB P w b lv d) (hl : d.blk.length = 8) : UnB P (w.setCell ⟨b, 8, none⟩ (.slice none 0 0)) b (.slice none 0 0) ⟨d.blk, [], d.busy⟩ :=
  h.newWas hl (Fr.refl [] w) (by simp) OwnR.nil (fun e => by cases e) (fun _ h => h) (fun g e => by cases e)
theorem five_allocs (w : World) (o0 o1 o2 o3 o4 : Obj) : (((((w.alloc o0).alloc o1).alloc o2).alloc o3).alloc o4).heap.size = w.heap.size + 5 ∧ Fr [] w (((((w.alloc o0).alloc o1).alloc o2).alloc o3).alloc o4) ∧
    (((((w.alloc o0).alloc o1).alloc o2).alloc o3).alloc o4).heap[w.heap.size]? = some o0 ∧ (((((w.alloc o0).alloc o1).alloc o2).alloc o3).alloc o4).heap[w.heap.size + 1]? = some o1 ∧ (((((w.alloc o0).alloc o1).alloc o2).alloc o3).alloc o4).heap[w.heap.size + 1 + 1]? = some o2 ∧
    (((((w.alloc o0).alloc o1).alloc o2).alloc o3).alloc o4).heap[w.heap.size + 1 + 1 + 1]? = some o3 ∧ (((((w.alloc o0).alloc o1).alloc o2).alloc o3).alloc o4).heap[w.heap.size + 1 + 1 + 1 + 1]? = some o4 := by
  have h (a : World) (o p : Obj) {k : Nat} (hk : a.heap[k]? = some p) : (a.alloc o).heap[k]? = some p := ((Fr.refl [] a).alloc o).get hk (by simp)
  have n1 := heap_alloc_new (w.alloc o0) o1
  have n2 := heap_alloc_new ((w.alloc o0).alloc o1) o2
  have n3 := heap_alloc_new (((w.alloc o0).alloc o1).alloc o2) o3
  have n4 := heap_alloc_new ((((w.alloc o0).alloc o1).alloc o2).alloc o3) o4
  simp only [World.size_alloc] at n1 n2 n3 n4
  exact ⟨by simp, (((((Fr.refl [] w).alloc _).alloc _).alloc _).alloc _).alloc _, h _ _ _ (h _ _ _ (h _ _ _ (h _ _ _ (heap_alloc_new w o0)))), h _ _ _ (h _ _ _ (h _ _ _ n1)), h _ _ _ (h _ _ _ n2), h _ _ _ n3, n4⟩
theorem SetI.own {P : Program} {k e : TypeId} {b n : Nat} {L : List Int} {X Y : World} {row : Option Nat} (h : SetI P k e X b n L) (hg : X.grownBy Y row) (hr : row ≠ some b) : SetI P k e Y b n L := by
  obtain ⟨es, clock, h0, r⟩ := h
  exact ⟨es, clock, (hg.block b (lt_of_heap h0) (fun e => hr e.symm)).trans h0, r⟩
theorem wrap_small {x : Int} (h0 : 0 ≤ x) (h1 : x ≤ 1000) : wrap64 x = x := by unfold wrap64; omega
set_option maxRecDepth 100000 in
set_option maxHeartbeats 4000000 in
theorem un_Crash (w : World) (P : Nat → Prop) (b : Nat) (d : Un.D) (h : UnF P w b d) :
    Calls Tryd.prog 12 #[.pointer (some ⟨b, 0, none⟩)] w (UnAns P b (.int .i64 (Un.cnt d.was)) (Un.crash d) w) := by
  obtain ⟨hO, lv, hB⟩ := h
  obtain ⟨A, c, rfl⟩ := hB.form
  refine (callsIn_wide (n := 8)).1 ?_
  refine callsIn_of_wp_marks Tryd.func12 rfl trivial ?_ rfl
  simp only [Tryd.ntmps12, List.size_toArray, List.length_cons, List.length_nil, Nat.reduceAdd, Nat.reduceSub, Array.replicate_succ, Array.replicate_zero, List.push_toArray, List.append_toArray, List.nil_append, List.cons_append]
  have cw := hB.was hO.blk
  have hfz := hB.free 8
  have hbl := hB.lt.1
  have hmm := @run_makeMap Tryd.prog
  have hb1 : b < w.heap.size + 1 := by omega
  have hb2 : b < w.heap.size + 1 + 1 := by omega
  have hb3 : b < w.heap.size + 1 + 1 + 1 := by omega
  gi_wp2_with (refine ⟨trivial, ?_⟩; gi_at_call 21; refine (callsIn_wide.2 (un_back0 _ _ _ _)).mono ?_; rintro e w2 ⟨rfl, rfl⟩)
  have hT : UnB (fun k => P k ∧ k < w.heap.size) w b (.slice A d.was.length c) d := hB.tight
  clear hB cw hfz hmm hb1 hb2 hb3
  obtain ⟨hsz, fA, y0, y1, y2, y3, y4⟩ := five_allocs w (.cells #[.pointer (some ⟨b, 0, none⟩)] 23) (.map #[] 0) (.cells #[.map (some (w.heap.size + 1))] 57) (.cells #[.int .i64 0] 3) (.cells #[.slice A d.was.length c] 26)
  have hm0 : St (((((w.alloc (.cells #[.pointer (some ⟨b, 0, none⟩)] 23)).alloc (.map #[] 0)).alloc (.cells #[.map (some (w.heap.size + 1))] 57)).alloc (.cells #[.int .i64 0] 3)).alloc (.cells #[.slice A d.was.length c] 26)) (w.heap.size + 1) 0 [] := by
    have h := SetI.made (w.alloc (.cells #[.pointer (some ⟨b, 0, none⟩)] 23)) Tryd.prog 3 4
    rw [World.size_alloc] at h
    exact h.fr ((((Fr.refl [] _).alloc _).alloc _).alloc _) (by simp)
  obtain ⟨W0, hW0⟩ : ∃ W0, (((((w.alloc (.cells #[.pointer (some ⟨b, 0, none⟩)] 23)).alloc (.map #[] 0)).alloc (.cells #[.map (some (w.heap.size + 1))] 57)).alloc (.cells #[.int .i64 0] 3)).alloc (.cells #[.slice A d.was.length c] 26)) = W0 := ⟨_, rfl⟩
  rw [hW0] at hsz fA y0 y1 y2 y3 y4 hm0 ⊢
  clear hW0 y1
  obtain ⟨S, hS⟩ : ∃ S : List Nat, S = [b, w.heap.size + 1, w.heap.size + 1 + 1 + 1] := ⟨_, rfl⟩
  obtain ⟨g, hg⟩ : ∃ g, g ∉ S ∧ (A = none ∨ g < w.heap.size + 5) ∧ RwP W0 A g c d.was := by
    obtain ⟨g, hRA, hgo, hgn, hcl, hcm⟩ := RwP.of hT.row
    rw [hS]
    cases A with
    | none =>
      refine ⟨w.heap.size + 9, by simp; omega, .inl rfl, ?_⟩
      rcases hRA with h | ⟨h, _⟩
      · exact .inl h
      · cases h
    | some a =>
      have h1 := hT.lt.2 g (by rw [hgo]; rfl)
      have h2 := hT.ne2
      rw [hgo] at h2
      have h3 : g ≠ b := by simpa using h2
      exact ⟨g, by simp; omega, .inr (by omega), hRA.fr fA (by simp)⟩
  have hsl : W0.cell? ⟨w.heap.size + 1 + 1 + 1 + 1, 0, none⟩ = some (.slice A d.was.length c) := by rw [cell_of_row _ _ _ _ _ _ y4]; rfl
  have hT0 := hT.keep fA
  have HOK := Lib.hid hO
  obtain ⟨stp, hstp⟩ : ∃ stp : Un.C → Fin d.was.length → Un.C, stp = fun z i => Un.cstep z (d.was[i.1]'i.2) := ⟨_, rfl⟩
  obtain ⟨z0, hz0⟩ : ∃ z0 : Un.C, z0 = ⟨d.blk, [], 0⟩ := ⟨_, rfl⟩
  have hlen : ∀ (pre : List (Fin d.was.length)), (pre.foldl stp z0).blk.length = 8 ∧ (pre.foldl stp z0).seen.length = pre.length ∧ (pre.foldl stp z0).many ≤ pre.length := fun pre => by
    have key : ∀ (pre : List (Fin d.was.length)) (z : Un.C), z.blk.length = 8 → (pre.foldl stp z).blk.length = 8 ∧ (pre.foldl stp z).seen.length = z.seen.length + pre.length ∧ (pre.foldl stp z).many ≤ z.many + pre.length := fun pre => by
      induction pre with
      | nil => exact fun z hz => ⟨hz, rfl, Nat.le_refl _⟩
      | cons x r ih =>
        intro z hz
        obtain ⟨h1, h2, h3⟩ := ih (stp z x) (by rw [hstp]; show (z.blk.set _ _).length = 8; simpa using hz)
        refine ⟨h1, ?_, ?_⟩
        · rw [List.foldl_cons, h2, hstp]
          show (z.seen ++ [_]).length + _ = _
          simp
          omega
        · rw [List.foldl_cons]
          have : (stp z x).many ≤ z.many + 1 := by
            rw [hstp]
            show z.many + (if _ then 0 else 1) ≤ _
            split <;> omega
          simp only [List.length_cons]
          omega
    have := key pre z0 (by rw [hz0]; exact hO.blk)
    rw [hz0] at this ⊢
    simpa using this
  refine wpIn_rangeFunc_ownH rfl (by decide) (gf := 28) (lb := #[.pointer (some ⟨w.heap.size + 1 + 1 + 1 + 1, 0, none⟩)]) rfl trivial (enters_of Tryd.func28 (by kernel_rfl) rfl)
    (un_back Fence.wide 7 trivial rfl (by decide) (w.heap.size + 1 + 1 + 1 + 1) (w.heap.size + 5) g c A S d.was hO.len W0 hg.2.2 ⟨hg.1, by rw [hS]; simp; omega, by omega, hg.2.1⟩ (by omega) hsl)
    (fun h k => h.trans k) (fun W l o o' hl _ _ _ => Kq.putObj W l o' (by omega)) (Below.refl _ _) (fun _ => rfl)
    (fun pre W => UnB (fun k => P k ∧ k < w.heap.size) W b (.slice A d.was.length c) ⟨(pre.foldl stp z0).blk, d.was, d.busy⟩ ∧ St W (w.heap.size + 1) pre.length (pre.foldl stp z0).seen ∧ W.heap[w.heap.size + 1 + 1 + 1]? = some (.cells #[.int .i64 (pre.foldl stp z0).many] 3 (0, 0)) ∧ Kq (w.heap.size + 5) S W0 W)
    (fun _ _ _ => False)
    (OwnFrom.and (fun s X Y row hs hg hr => hs.cells (CellsKept.of_grown hg hr)) (OwnFrom.and (fun s X Y row hs hg hr => hs.own hg (fun e => by have := (hr _ e).1; omega)) (OwnFrom.and (fun s X Y row hs hg hr => CellsKept.of_grown hg hr _ _ hs rfl) (Kq.own (by omega) (by omega)))))
    (fun _ _ _ _ _ hs _ _ => hs)
    ⟨by rw [hz0]; exact hT0, by rw [hz0]; exact hm0, by rw [hz0]; exact y3, Kq.refl _ _ _⟩
    (fun x a' W => ∃ Bx, w.heap.size + 5 ≤ Bx ∧ W.heap[Bx]? = some (.cells #[.int .i64 (d.was[x.1]'x.2).t, .int .i64 (d.was[x.1]'x.2).b, .int .i64 (d.was[x.1]'x.2).v] 36 (0, 0)) ∧ a' = { tmps := #[Value.pointer (some ⟨b, 0, none⟩), Value.pointer (some ⟨w.heap.size, 0, none⟩), Value.int IntKind.i64 0, Value.pointer (some ⟨w.heap.size + 1 + 1, 0, none⟩), Value.pointer (some ⟨w.heap.size + 1 + 1 + 1, 0, none⟩), undef, Value.pointer (some ⟨Bx, 0, none⟩), undef, Value.map (some (w.heap.size + 1)), Value.pointer (some ⟨b, 0, none⟩), Value.pointer (some ⟨b, 0, none⟩), Value.pointer (some ⟨b, 8, none⟩), Value.slice A d.was.length c, Value.func (Fn.func 28) #[] #[Value.pointer (some ⟨w.heap.size + 1 + 1 + 1 + 1, 0, none⟩)], .int .i64 (x.1 : Nat), putV (d.was[x.1]'x.2), undef, undef, undef, undef, undef, undef, undef, undef, undef, undef, undef, undef, undef, undef, undef, undef, undef, undef, undef, undef, undef, undef, undef, undef, undef, undef, undef], defers := [] })
    (fun x a' _ X Y row hs hg hr => by obtain ⟨Bx, h1, h2, h3⟩ := hs; exact ⟨Bx, h1, CellsKept.of_grown hg hr _ _ h2 rfl, h3⟩)
    ?assign ?body ?done ?stop
  case assign =>
    rintro l pre x W K ⟨hBI, hSI, hYI, hKI⟩ hK
    have hsW := hKI.size
    have hfr : Fr [] W (W.alloc (.cells #[.int .i64 (d.was[x.1]'x.2).t, .int .i64 (d.was[x.1]'x.2).b, .int .i64 (d.was[x.1]'x.2).v] 36)) := (Fr.refl [] W).alloc _
    dsimp only [putV]
    clear hstp hlen hz0
    gi_wp2
    exact hK _ _ ((KeepsOthers.alloc _ _).from _) (Kq.of_frT hfr (by omega) (by simp)) ⟨hBI.keep hfr, hSI.fr hfr (by simp), hfr.get hYI (by simp), hKI.trans (Kq.of_frT hfr (by omega) (by simp))⟩ ⟨W.heap.size, by omega, heap_alloc_new W _, rfl⟩
  case body =>
    rintro l pre x a' W hl ⟨r, hr⟩ ⟨hBI, hSI, hYI, hKI⟩ ⟨Bx, hBx, hbx, rfl⟩ hlt
    have hs' : (pre ++ [x]).foldl stp z0 = Un.cstep (pre.foldl stp z0) (d.was[x.1]'x.2) := by rw [List.foldl_append, hstp]; rfl
    obtain ⟨hl8, hsn, hmn⟩ := hlen pre
    have hrb := hO.rb (d.was[x.1]'x.2) (List.getElem_mem _)
    have hrt := hO.rt (d.was[x.1]'x.2) (List.getElem_mem _)
    have hn60 : pre.length < 60 := by have := hO.len; omega
    have hx0 := hKI.get y0 (by omega) (by rw [hS]; simp; omega)
    have hx2 := hKI.get y2 (by omega) (by rw [hS]; simp; omega)
    have c0 : W.cell? ⟨w.heap.size, 0, none⟩ = some (.pointer (some ⟨b, 0, none⟩)) := by rw [cell_of_row _ _ _ _ _ _ hx0]; rfl
    generalize d.was[x.1]'x.2 = r0 at *
    obtain ⟨rt, rb, rv⟩ := r0
    dsimp only at hrb hrt
    obtain ⟨bn, hbn⟩ : ∃ bn : Nat, rb = bn := ⟨rb.toNat, by omega⟩
    subst hbn
    have hb8 : bn < 8 := by omega
    obtain ⟨d0, d1, d2⟩ := pt_cells (r := ⟨rt, bn, rv⟩) hbx
    have hpl : (pre ++ [x]).length = pre.length + 1 := by simp
    have hsb : (List.foldl stp z0 (pre ++ [x])).blk = (List.foldl stp z0 pre).blk.set bn rv := by rw [hs']; rfl
    have hss : (List.foldl stp z0 (pre ++ [x])).seen = (List.foldl stp z0 pre).seen ++ [rt] := by rw [hs']; rfl
    have hsm : (List.foldl stp z0 (pre ++ [x])).many = (List.foldl stp z0 pre).many + if hasB (List.foldl stp z0 pre).seen rt then 0 else 1 := by rw [hs']; rfl
    generalize List.foldl stp z0 pre = z1 at *
    -- behind the store
    have hfz := hBI.free bn
    have cb := hBI.blk (i := bn) (by dsimp only; rw [hl8]; exact hb8)
    obtain ⟨w1, hw1⟩ : ∃ w1, w1 = (W.setCell ⟨b, bn, none⟩ (.int .i64 rv)).drew := ⟨_, rfl⟩
    have hF1 : Fr [b] W w1 := by rw [hw1]; exact ((Fr.refl [b] W).setCell (.inl (by simp)) _).drew
    have hB1 : UnB (fun k => P k ∧ k < w.heap.size) w1 b (.slice A d.was.length c) ⟨z1.blk.set bn rv, d.was, d.busy⟩ := by rw [hw1]; exact (hBI.setBlk hl8 hb8 rv).keep ((Fr.refl [] _).drew)
    have hS1 := hSI.fr hF1 (by simp; omega)
    have hY1 := hF1.get hYI (by simp; omega)
    have hx21 := hF1.get hx2 (by simp; omega)
    have e2 : w1.cell? ⟨w.heap.size + 1 + 1, 0, none⟩ = some (.map (some (w.heap.size + 1))) := by rw [cell_of_row _ _ _ _ _ _ hx21]; rfl
    have e0 : w1.cell? ⟨Bx, 0, none⟩ = some (.int .i64 rt) := hF1.cell d0 (by simp; omega)
    have HADD := Lib.hid (set_Add w1 (w.heap.size + 1) pre.length z1.seen rt hS1 (by unfold Un.okT at hrt; unfold I64; omega) (by omega))
    have HW1 := Lib.hid hw1
    have HF1 := Lib.hid hF1
    have HB1 := Lib.hid hB1
    have HY1 := Lib.hid hY1
    have HKI := Lib.hid hKI
    have HSS := Lib.hid hS
    have HSB := Lib.hid hsb
    have HSS2 := Lib.hid hss
    have HSM := Lib.hid hsm
    have hlx : l < W.heap.size := lt_of_heap hr
    have hWs : W0.heap.size ≤ W.heap.size := hKI.size
    have hbW : b < W.heap.size := by omega
    have HPL := Lib.hid hpl
    have hmI : (z1.many : Int) ≤ 60 := by omega
    have hm0' : (0 : Int) ≤ z1.many := by omega
    clear hs' hsb hss hsm hstp hlen hBI hSI hYI hKI hl8 hsn hx0 hx2 hx21 y0 y2 y3 y4 hm0 hsl hT0 hT hO hbx hrb hrt hw1 hF1 hB1 hS1 hY1 hg hz0 hS hpl hmn
    generalize z1.blk = blk1 at *
    generalize z1.seen = seen1 at *
    generalize z1.many = many1 at *
    generalize nth blk1 bn = y at *
    dsimp only [putV]
    by_cases hb : hasB seen1 rt = true
    · have HM2 := Lib.hid (HSM.out.trans (show many1 + (if hasB seen1 rt then 0 else 1) = many1 by rw [if_pos hb]; omega))
      rw [hb] at HADD
      clear hb HSM
      gi_wp2
      (refine wpIn_region_mixq 7 [(true, 0), (true, 1), (true, 2), (true, 3), (true, 4), (true, 5), (true, 6)] (by kernel_rfl) (by kernel_rfl) ?_; simp only [pickOps, List.map_cons, List.map_nil, List.getD_cons_zero, List.getD_cons_succ, List.drop_succ_cons, List.drop_zero]; (iterate 7 (first | (refine wpMix_take (v := ?_) (by rfl) ?_ ?_; rotate_left; (focus (intro W hW; subst hW; go_simp; (try with_reducible rfl); done)); try simp only [Act.put, List.setIfInBounds_toArray, List.set_cons_zero, List.set_cons_succ]) | (refine wpMix_leave (by rfl) ?_; try simp only [Act.put, List.setIfInBounds_toArray, List.set_cons_zero, List.set_cons_succ]))); refine wpMix_nil ?_)
      go_wp2
      dsimp only [NormalOnly]
      rw [← HW1.out]
      gi_wp2_with (refine ⟨trivial, ?_⟩; gi_at_call 23; refine (CallsIn.inRound l (callsIn_wide.2 HADD.out)).mono ?_; rintro e w2 ⟨rfl, h1, h2⟩; have HR := Lib.hid (And.intro h1 h2); clear h1 h2)
      have hB2 := (HB1.out).fr HR.out.2 (by simp; omega) (fun g hg e => by simp only [List.mem_singleton] at hg; subst hg; have := (HB1.out.gl _ e).2; omega)
      have hF2 : Fr [b, w.heap.size + 1] W w2 := ((HF1.out).mono (fun x hx => .inl (by simp at hx; simp [hx]))).step HR.out.2 (fun x hx => .inl (by simp at hx; simp [hx]))
      have hK2 : Kq (w.heap.size + 5) S W w2 := Kq.of_frT hF2 (by omega) (fun x hx => .inl (by rw [HSS.out]; simp at hx ⊢; omega))
      exact ⟨KeepsFrom.of_fr hF2 (fun x hx => by simp at hx; omega), hK2, by show UnB _ _ _ _ ⟨_, _, _⟩; rw [HSB.out]; exact hB2, by rw [HSS2.out, HPL.out]; exact HR.out.1, by rw [HM2.out]; exact (HR.out.2).get HY1.out (by simp; omega), HKI.out.trans hK2⟩
    · have HM2 := Lib.hid (HSM.out.trans (show many1 + (if hasB seen1 rt then 0 else 1) = many1 + 1 by rw [if_neg hb]))
      rw [show hasB seen1 rt = false by simpa using hb] at HADD
      clear hb HSM
      gi_wp2
      (refine wpIn_region_mixq 7 [(true, 0), (true, 1), (true, 2), (true, 3), (true, 4), (true, 5), (true, 6)] (by kernel_rfl) (by kernel_rfl) ?_; simp only [pickOps, List.map_cons, List.map_nil, List.getD_cons_zero, List.getD_cons_succ, List.drop_succ_cons, List.drop_zero]; (iterate 7 (first | (refine wpMix_take (v := ?_) (by rfl) ?_ ?_; rotate_left; (focus (intro W hW; subst hW; go_simp; (try with_reducible rfl); done)); try simp only [Act.put, List.setIfInBounds_toArray, List.set_cons_zero, List.set_cons_succ]) | (refine wpMix_leave (by rfl) ?_; try simp only [Act.put, List.setIfInBounds_toArray, List.set_cons_zero, List.set_cons_succ]))); refine wpMix_nil ?_)
      go_wp2
      dsimp only [NormalOnly]
      rw [← HW1.out]
      gi_wp2_with (refine ⟨trivial, ?_⟩; gi_at_call 23; refine (CallsIn.inRound l (callsIn_wide.2 HADD.out)).mono ?_; rintro e w2 ⟨rfl, h1, h2⟩; have HR := Lib.hid (And.intro h1 h2); have hy2 := h2.get HY1.out (by simp; omega); have cy : w2.cell? ⟨w.heap.size + 1 + 1 + 1, 0, none⟩ = some (.int .i64 many1) := (by rw [cell_of_row _ _ _ _ _ _ hy2]; rfl); have fy := free_block hy2 0 none; have HY2 := Lib.hid hy2; clear h1 h2 hy2)
      have hB2 := (HB1.out).fr HR.out.2 (by simp; omega) (fun g hg e => by simp only [List.mem_singleton] at hg; subst hg; have := (HB1.out.gl _ e).2; omega)
      have hF3 : Fr [w.heap.size + 1 + 1 + 1] w2 (w2.setCell ⟨w.heap.size + 1 + 1 + 1, 0, none⟩ (.int .i64 (many1 + 1))) := (Fr.refl _ w2).setCell (.inl (by simp)) _
      have hB3 := hB2.fr hF3 (by simp; omega) (fun g hg e => by simp only [List.mem_singleton] at hg; subst hg; have := (HB1.out.gl _ e).2; omega)
      have hF2 : Fr S W w2 := ((HF1.out).mono (fun x hx => .inl (by rw [HSS.out]; simp at hx; simp [hx]))).step HR.out.2 (fun x hx => .inl (by rw [HSS.out]; simp at hx; simp [hx]))
      have hF4 := hF2.step hF3 (fun x hx => .inl (by rw [HSS.out]; simp at hx; simp [hx]))
      have hK2 := Kq.of_fr (n₀ := w.heap.size + 5) hF4 (by omega)
      have hY4 : (w2.setCell ⟨w.heap.size + 1 + 1 + 1, 0, none⟩ (.int .i64 (many1 + 1))).heap[w.heap.size + 1 + 1 + 1]? = some (.cells #[.int .i64 ((many1 + 1 : Nat) : Int)] 3 (0, 0)) := by rw [set_block HY2.out]; rfl
      have hS4 := HR.out.1.fr hF3 (by simp)
      exact ⟨KeepsFrom.of_fr hF4 (fun x hx => by rw [HSS.out] at hx; simp at hx; omega), hK2, by show UnB _ _ _ _ ⟨_, _, _⟩; rw [HSB.out]; exact hB3, by rw [HSS2.out, HPL.out]; exact hS4, by rw [HM2.out]; exact hY4, HKI.out.trans hK2⟩
  case done =>
    rintro D ys W hD rfl ⟨hBI, hSI, hYI, hKI⟩ hKD
    have hfd : (Un.down d.was.length d.was.length).foldl stp z0 = d.was.foldr (fun r z => Un.cstep z r) ⟨d.blk, [], 0⟩ := by
      rw [hstp, Un.down_foldr Un.cstep d.was z0 _ (Nat.le_refl _), Nat.sub_self, List.drop_zero, hz0]
    obtain ⟨q1, -, q3⟩ := Un.cfold d.blk d.was
    rw [hfd] at hBI hYI
    rw [q1] at hBI
    rw [q3] at hYI
    have hx0 := hKI.get y0 (by omega) (by rw [hS]; simp; omega)
    have hl8 : (Un.un Un.all d.was d.blk).length = 8 := by rw [Un.un_len]; exact hO.blk
    have hWs := hKI.size
    have hbW : b < W.heap.size := by omega
    have c8 := hBI.was hl8
    have f8 := hBI.free 8
    have hgb := Lib.hid hBI.gb
    have c0 : (W.setCell ⟨b, 8, none⟩ (.slice none 0 0)).cell? ⟨w.heap.size, 0, none⟩ = some (.pointer (some ⟨b, 0, none⟩)) := by rw [cell_of_row _ _ _ _ _ _ ((UnB.one W b 8 _).get hx0 (by simp; omega))]; rfl
    have c00 : W.cell? ⟨w.heap.size, 0, none⟩ = some (.pointer (some ⟨b, 0, none⟩)) := by rw [cell_of_row _ _ _ _ _ _ hx0]; rfl
    obtain ⟨w1, hw1⟩ : ∃ w1, w1 = W.setCell ⟨b, 8, none⟩ (.slice none 0 0) := ⟨_, rfl⟩
    have hF1 : Fr [b] W w1 := by rw [hw1]; exact UnB.one W b 8 _
    have hB1 := hBI.cut hl8
    rw [← hw1] at hB1 c0
    have hX1 := hF1.get hx0 (by simp; omega)
    have HL := Lib.hid hl8
    have HX1 := Lib.hid hX1
    have HB1 := Lib.hid hB1
    have HF1 := Lib.hid hF1
    have HY1 := Lib.hid (hF1.get hYI (by simp; omega))
    have HKI := Lib.hid hKI
    have HSS := Lib.hid hS
    have HW1 := Lib.hid hw1
    have hbu := Lib.hid hO.busy
    have hKD1 := Lib.hid (hF1.get hKD (by simp; omega))
    clear hfd q1 q3 hstp hlen hBI hSI hYI hKI hx0 hX1 hl8 y0 y2 y3 y4 hm0 hsl hT0 hT hO hz0 hS hg hw1 hB1 hF1 hKD
    have HCR := Lib.hid (show Un.crash d = ⟨Un.un Un.all d.was d.blk, [], List.replicate 8 (-1)⟩ from rfl)
    generalize Un.un Un.all d.was d.blk = blk1 at *
    gi_wp2
    rw [← HW1.out]
    clear c8 f8 c00
    gi_loopw [33] (fun i wr => ∃ k : Nat, k ≤ 8 ∧ i = .int .i64 k ∧ Hid (UnB (fun k => P k ∧ k < w.heap.size) wr b (.slice none 0 0) ⟨blk1, [], Un.fill k d.busy⟩) ∧ Hid (Fr [b] w1 wr)) (fun i _ => 8 - (intOf i).toNat)
    case atStart => exact ⟨0, Nat.zero_le _, rfl, HB1, Fr.refl _ _⟩
    case round =>
      clear HB1
      obtain ⟨k, hk, rfl, hB, hF⟩ := hrel
      by_cases hlt : k < 8
      · have hkI : (k : Int) < 8 := by omega
        have cb := hB.out.busy HL.out (i := k) (by show k < (Un.fill k d.busy).length; rw [Un.fill_len (by rw [hbu.out]; omega), hbu.out]; exact hlt)
        have hfz := hB.out.free (9 + k)
        have cx : wr.cell? ⟨w.heap.size, 0, none⟩ = some (.pointer (some ⟨b, 0, none⟩)) := by rw [cell_of_row _ _ _ _ _ _ (hF.out.get HX1.out (by simp; omega))]; rfl
        have HB4 := Lib.hid (hB.out.setBusy HL.out k (-1))
        dsimp only at HB4
        rw [Un.fill_set (by rw [hbu.out]; exact hlt)] at HB4
        have HF4 := Lib.hid (hF.out.trans (UnB.one wr b (9 + k) (.int .i64 (-1))))
        clear c0
        dsimp only at cb
        generalize nth (Un.fill k d.busy) k = y at *
        gi_wp2
        go_roundw
        case rel => exact ⟨k + 1, by omega, by go_num, HB4, HF4⟩
        case measure => simp [intOf]; omega
      · have hke : k = 8 := by omega
        have hkI : ¬ (k : Int) < 8 := by omega
        have cy : wr.cell? ⟨w.heap.size + 1 + 1 + 1, 0, none⟩ = some (.int .i64 (Un.cnt d.was)) := by rw [cell_of_row _ _ _ _ _ _ (hF.out.get HY1.out (by simp; omega))]; rfl
        have HBE : Hid (UnB (fun k => P k ∧ k < w.heap.size) wr b (.slice none 0 0) ⟨blk1, [], List.replicate 8 (-1)⟩) := by
          have := hB.out
          rw [hke, Un.fill_all hbu.out] at this
          exact this
        clear hke hlt c0
        gi_wp2
        have hfr : Fr S W0 W := by
          have := HKI.out
          rw [← hsz] at this
          exact this.fr
        have hK3 : wr.heap[D]? = some (.deferred (some [])) := hF.out.get hKD1.out (by simp; omega)
        have hFW : FrP P w wr := ((((FrP.refl P w).step fA (by simp)).step hfr (fun x hx => by rw [HSS.out] at hx; simp at hx; rcases hx with rfl | rfl | rfl; exact .inl hgb.out.1; exact .inr (by omega); exact .inr (by omega))).step HF1.out (fun x hx => by simp only [List.mem_singleton] at hx; subst hx; exact .inl hgb.out.1)).step hF.out (fun x hx => by simp only [List.mem_singleton] at hx; subst hx; exact .inl hgb.out.1)
        refine ⟨by simp, .inl ⟨_, _, rfl, run_takeDeferred hK3, ?_⟩⟩
        have hgr := grownBy_putObj' wr D (.deferred none)
        have hck : CellsKept wr (wr.putObj D (.deferred none)) := CellsKept.of_grown (B := 0) hgr (fun r e => by cases e; exact ⟨Nat.zero_le _, _, hK3, rfl⟩)
        refine ⟨_, results_tmp rfl _ _ _, rfl, ⟨Un.crash_ok HOK.out, _, (by rw [HCR.out]; exact (HBE.out.cells hck).imp (fun k hk => .inl hk.1))⟩, hFW.step (S := [D]) ((Fr.refl [D] wr).grown hgr (fun g e => by cases e; exact .inl (by simp))) (fun x hx => by simp only [List.mem_singleton] at hx; subst hx; exact .inr (by omega))⟩
  case stop =>
    rintro D k pre W _ _ h _
    exact h.elim
end Go.Proofs.YtmhmbgkpojgbbabDoor
