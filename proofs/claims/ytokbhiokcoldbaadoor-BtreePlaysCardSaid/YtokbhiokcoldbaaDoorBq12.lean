/- add of package btree at an inner node that is split. -/
import Derived.Deep.LoopGhost
import Derived.Test.YtokbhiokcoldbaaDoorBq11
namespace Go.Proofs.YtokbhiokcoldbaaDoor
open Go.RowKit

set_option maxRecDepth 100000 in
set_option maxHeartbeats 4000000 in
theorem bt_addN3 {d : Nat} {w : World} {b : Nat} {vk vc : Value} {K : List (Kd d)} {t : Bt.T (d + 1)} {x : Int} {i bi : Nat} {s s' r : Bt.T d} {u : Int} {Fi : List Nat} (h : BtN d w b vk vc K t x i bi s Fi) (hadd : Bt.add d s x = (s', some (u, r)))
    (IH : ∀ W, Nd d W bi s Fi → Calls Tryd.prog 64 #[.pointer (some ⟨bi, 0, none⟩), .int .i64 x] W (BtA d W bi Fi (Bt.add d s x))) (h3 : t.1.length = 4) :
    Calls Tryd.prog 64 #[.pointer (some ⟨b, 0, none⟩), .int .i64 x] w (BtA (d + 1) w b (fpt b vk vc K) (Bt.add (d + 1) t x)) := by
  obtain ⟨gc, cc, hW⟩ := btW_of h
  have HBS := Lib.hid hW.bs_
  have HC := Lib.hid hW.cells
  have HI := Lib.hid (fun W (hf : Fr [] w W) => IH W (h.nd.keep hf))
  have HO := Lib.hid (fun w1 w2 e (hf : Fr [] w w1) (ha : BtA d w1 bi Fi (Bt.add d s x) e w2) => h.two hadd hf ha)
  obtain ⟨A, c, hvk, -⟩ := h.p.keys.form'
  have hvc := hW.vc_
  obtain ⟨hi, hb5⟩ := hW.ix
  have h4 := h.four
  have HT4 := Lib.hid h4
  have HIX : Hid (i ≤ t.1.length) := by show i ≤ _; rw [h.ix]; exact Bt.lb_le x t.1
  have HIY : Hid (i + 1 ≤ (K.map (·.1)).length) := by show _ ≤ _; omega
  have HNB : Hid ((K.map (·.1)).length ≤ 100000) := by show _ ≤ _; omega
  have HKL : Hid ((Bt.ins t.1 i u).length = t.1.length + 1) := Bt.ins_len _ _ _ HIX.out
  have HBL : Hid (∀ y, (Bt.ins (K.map (·.1)) (i + 1) y).length = (K.map (·.1)).length + 1) := fun y => Bt.ins_len _ _ _ HIY.out
  have HBT : Hid ((K.map (·.1)).length = t.1.length + 1) := by show _ = _; rw [List.length_map, h.len]
  have HAD := Lib.hid (h.add_two hadd)
  have i0 : (0 : Int) ≤ i := by omega
  have iI : (i : Int) < ((K.map (·.1)).length : Nat) := by omega
  have iw : IntKind.i64.wrap ((i : Int) + 1) = (i : Int) + 1 := by rw [IntKind.wrap_i64]; omega
  obtain ⟨nb, hnb⟩ : ∃ nb, (K.map (·.1)).length = nb := ⟨_, rfl⟩
  obtain ⟨nk, hnk⟩ : ∃ nk, t.1.length = nk := ⟨_, rfl⟩
  rw [hnb] at hvc iI hi hb5
  rw [hnk] at hvk h4
  have HNBE := Lib.hid hnb
  have HNKE := Lib.hid hnk
  generalize (Bt.add (d + 1) t x) = R at *
  subst hvk
  subst hvc
  have HNE := Lib.hid (fun W => Lib.run_eql_slice_nil (P := Tryd.prog) W 100 99 (some ⟨gc, 0, none⟩) nb cc 0 0 Tryd.und_insP)
  have HBF : Hid (b ∈ fpt b (.slice A nk c) (.slice (some ⟨gc, 0, none⟩) nb cc) K) := by show b ∈ _; unfold fpt; simp
  have c0 := (HC.out w (Fr.refl _ _)).1
  have HK5 : Hid ((Bt.ins t.1 i u).length = 5) := by show _ = _; rw [HKL.out]; omega
  have HB6 : Hid (∀ y, (Bt.ins (K.map (·.1)) (i + 1) y).length = 6) := fun y => by rw [HBL.out, HBT.out]; omega
  obtain ⟨uu, huu⟩ : ∃ uu, (Bt.ins t.1 i u).getD 2 0 = uu := ⟨_, rfl⟩
  have HUU := Lib.hid huu
  have HD3 : Hid (((Bt.ins t.1 i u).drop 3).length ≤ 100000) := by show _ ≤ _; rw [List.length_drop, HK5.out]; omega
  clear hnb hnk h hW IH hadd h3 huu
  go_enter Tryd.func64, Tryd.ntmps64
  go_wp2_with (first
    | (go_at_call 66; (with_reducible refine useC HBS.out ?_); rintro e w1 ⟨rfl, hf⟩; have HF1 := Lib.hid hf; obtain ⟨q0, q1, q2⟩ := HC.out w1 hf; have hnl := HNE.out w1; have HI1 := Lib.hid (HI.out w1 hf); clear hf)
    | (have hi' := HI1; go_at_call 64; (with_reducible refine useC HI1.out ?_); intro e w2 ha; obtain ⟨b2, K2, rfl, p1, p2, p3, p4, p5⟩ := HO.out w1 w2 e HF1.out ha; have HP2 := Lib.hid p1; have HB2 := Lib.hid p2; have HG2 := Lib.hid p3; have HK1 := Lib.hid p4; have HK2 := Lib.hid p5; obtain ⟨r0, r1, rf⟩ := nd_cells p1.file; have HIN := Lib.hid (insI (w2.alloc (.cells #[.int .i64 u] 3)) 0 _ i t.1 u w2.heap.size (p1.keys.alloc _) HIX.out (heap_alloc_new w2 _) (fun e => by have := (p1.keys.ge _ e).2; omega) (by have := HT4.out; omega) (Nat.zero_le _)); clear ha p1 p2 p3 p4 p5 hi')
    | (have hj' := HIN; go_at_call 81; (with_reducible refine useC HIN.out ?_); intro e w3 ha; have ha := ha.of ((Fr.refl [] w2).alloc _); obtain ⟨⟨v', he, ho3, hv3⟩, hg3⟩ := ha; subst he; replace ho3 : OwnR inE w3 0 3 v' (Bt.ins t.1 i u) := ho3; have hb3 := (fr_grown hg3).get HP2.out.file (nodup_parts HP2.out.nodup).1; obtain ⟨g3, c3, hv', hk3a, hk3b, -⟩ := own_cellI ho3 (by have := HK5.out; omega); rw [HK5.out] at hv' hk3a; subst hv'; obtain ⟨w4, hw4⟩ : ∃ w4, w3.setCell ⟨b, 0, none⟩ (.slice (some ⟨g3, 0, none⟩) 5 c3) = w4 := ⟨_, rfl⟩; obtain ⟨m1, m2, m3⟩ := bt_mid1 HP2.out HB2.out HG2.out ho3 hv3 hg3 w4 hw4; have HP4 := Lib.hid m1; have HB4 := Lib.hid m2; have HG4 := Lib.hid m3; obtain ⟨t0, t1, tf⟩ := nd_cells hb3; obtain ⟨s0, s1, sf⟩ := nd_cells m1.file; have HW4 := Lib.hid hw4; have hpi := insP (w4.alloc (.cells #[.pointer (some ⟨b2, 0, none⟩)] 99)) 0 _ (i + 1) (K.map (·.1)) b2 w4.heap.size (m1.kids.alloc _) HIY.out (heap_alloc_new w4 _) (fun e => by have := (m1.kids.ge _ e).2; omega) HNB.out (Nat.zero_le _); rw [show ((i + 1 : Nat) : Int) = (i : Int) + 1 from (by omega)] at hpi; have HIP := Lib.hid hpi; clear hpi hb3 ho3 hv3 hg3 hw4 m1 m2 m3 hj')
    | (have hk' := HIP; go_at_call 82; (with_reducible refine useC HIP.out ?_); intro e w5 ha; have ha := ha.of ((Fr.refl [] w4).alloc _); obtain ⟨⟨vc', he, ho5, hv5⟩, hg5⟩ := ha; subst he; replace ho5 : OwnR pbE w5 0 99 vc' (Bt.ins (K.map (·.1)) (i + 1) b2) := ho5; have hb5 := (fr_grown hg5).get HP4.out.file (nodup_parts HP4.out.nodup).2.1; obtain ⟨gk, ck, hv6, hk5a, hk5b, -⟩ := own_cellP ho5 (by rw [HBL.out]; omega); rw [HB6.out b2] at hv6 hk5a; subst hv6; obtain ⟨w6, hw6⟩ : ∃ w6, w5.setCell ⟨b, 1, none⟩ (.slice (some ⟨gk, 0, none⟩) 6 ck) = w6 := ⟨_, rfl⟩; obtain ⟨m1, m2, m3⟩ := bt_mid2 HP4.out HB4.out HG4.out ho5 hv5 hg5 w6 hw6; obtain ⟨x0, x1, xf⟩ := nd_cells hb5; obtain ⟨y0, y1, yf⟩ := nd_cells m1.file; have HW6 := Lib.hid hw6; have hnd6 := m1; rw [show Bt.ins (K.map (·.1)) (i + 1) b2 = K2.map (·.1) from HK1.out.symm] at hnd6; have hl6 := HB6.out b2; rw [show Bt.ins (K.map (·.1)) (i + 1) b2 = K2.map (·.1) from HK1.out.symm] at hl6; have HL6 := Lib.hid hl6; have HP6 := Lib.hid hnd6; have HB6' := Lib.hid m2; have HG6 := Lib.hid m3; obtain ⟨g9, c9, e9, -, -, hcl⟩ := own_cellI hnd6.keys (by have := HK5.out; omega); injection e9 with e9 e11 e10; injection e9 with e9; injection e9 with e9 e12 e13; subst e9 e10; clear e11 e12 e13; have s9 := hcl 2 (by have := HK5.out; omega); have hk2 : (Bt.ins t.1 i u).getD 2 0 = (Bt.ins t.1 i u)[2]'(by have := HK5.out; omega) := (by simp [List.getD, HK5.out]); rw [← hk2, HUU.out] at s9; have hsl := sl_part (i := 3) (m := 2) (c' := c3 - 3) hnd6.keys rfl (by have := HK5.out; omega) (by rw [HK5.out]) (by omega) (by omega) 3 rfl; have HCL := Lib.hid (cloneI w6 _ g3 _ hsl HD3.out); have hc3 : ¬ c3 = 3 := (by omega); have hc3I : (3 : Int) ≤ c3 := (by omega); have hc2I : (2 : Int) ≤ c3 := (by omega); have hc0' : ¬ c3 = 0 := (by omega); have hd3 : ¬ ck = 3 := (by omega); have hd3I : (3 : Int) ≤ ck := (by omega); have hd0' : ¬ ck = 0 := (by omega); have HCC := Lib.hid (And.intro hk5a hk5b); clear hnd6 hl6 hcl hk2 hsl hk3a hk3b hk5a hk5b; clear hb5 ho5 hv5 hg5 hw6 m1 m2 m3 hk')
    | (have hw' := HW6; rw [HW6.out])
    | (have hw' := HW4; rw [HW4.out])
    | (have hi7 := HCL; go_at_call 65; (with_reducible refine useC HCL.out ?_); rintro e w7 ⟨v7, rfl, ho7, hf7⟩; obtain ⟨A7, k7, hv7, -⟩ := ho7.form'; obtain ⟨L7, hL7⟩ : ∃ L7, ((Bt.ins t.1 i u).drop 3).length = L7 := ⟨_, rfl⟩; rw [hL7] at hv7; clear hL7; subst hv7; have hbb := hf7.get HP6.out.file (by simp); obtain ⟨z0, z1, zf⟩ := nd_cells hbb; have hb7 := lt_of_heap hbb; have HO7 := Lib.hid ho7; have HF7 := Lib.hid hf7; obtain ⟨w8, hw8⟩ : ∃ w8, (w7.setCell ⟨b, 0, none⟩ (.slice (some ⟨g3, 0, none⟩) 2 c3)).alloc (.cells #[.slice A7 L7 k7, .slice none 0 0] 102) = w8 := ⟨_, rfl⟩; have hw8' := hw8; rw [← World.setCell_alloc_past _ _ _ _ hb7] at hw8'; have hb8 : w8.heap[b]? = some (.cells #[.slice (some ⟨g3, 0, none⟩) 2 c3, .slice (some ⟨gk, 0, none⟩) 6 ck] 102 (0, 0)) := (by rw [← hw8']; exact set_block (((Fr.refl [] w7).alloc _).get hbb (by simp)) _); have hx8 : w8.heap[w7.heap.size]? = some (.cells #[.slice A7 L7 k7, .slice none 0 0] 102 (0, 0)) := (by rw [← hw8']; exact ((Fr.refl [b] _).setCell (.inl (by simp)) _).get (heap_alloc_new w7 _) (by simp; omega)); have hf8 : Fr [b] w6 w8 := (by rw [← hw8']; exact ((hf7.alloc _).nil).setCell (.inl (by simp)) _); obtain ⟨i0, i1, jf⟩ := nd_cells hb8; obtain ⟨l0, l1, lf⟩ := nd_cells hx8; have HX8 := Lib.hid hx8; have HB8 := Lib.hid hb8; have HW8 := Lib.hid hw8; have HW8' := Lib.hid hw8'; have hpk := HP6.out.kids.kept hf8 (fun y hy e => by simp only [List.mem_singleton] at hy; subst hy; exact (nodup_parts HP6.out.nodup).2.1 (mem_obl.2 e)); have hsp := sl_part (i := 3) (m := 3) (c' := ck - 3) hpk rfl (by have := HL6.out; omega) (by rw [HL6.out]) (by have := HCC.out; omega) (by have := HCC.out; omega) 3 rfl; have HCP := Lib.hid (cloneP w8 _ gk _ hsp (by rw [List.length_drop]; have := HL6.out; omega)); clear ho7 hf7 hbb hw8 hw8' hb8 hx8 hf8 hpk hsp hi7)
    | (have hi8 := HW8; rw [HW8.out])
    | (have hi9 := HCP; go_at_call 83; (with_reducible refine useC HCP.out ?_); rintro e w9 ⟨v9, rfl, ho9, hf9⟩; have hA := fun W (hW : W = (w9.setCell ⟨w7.heap.size, 1, none⟩ v9).setCell ⟨b, 1, none⟩ (.slice (some ⟨gk, 0, none⟩) 3 ck)) => bt_end3 (w := w) HP6.out HK2.out HK5.out HL6.out HB6'.out HG6.out HBF.out HF7.out HO7.out w8 HW8'.out.symm hf9 ho9 W hW; rw [← HAD.out, HUU.out] at hA; have HA := Lib.hid hA; obtain ⟨A9, k9, hv9, -⟩ := ho9.form'; obtain ⟨L9, hL9⟩ : ∃ L9, ((K2.map (·.1)).drop 3).length = L9 := ⟨_, rfl⟩; rw [hL9] at hv9; clear hL9; subst hv9; have hx9 := hf9.get HX8.out (by simp); have hb9 := hf9.get HB8.out (by simp); obtain ⟨u0, u1, uf⟩ := nd_cells hx9; have hne9 : b ≠ w7.heap.size := (by omega); have hb9' := ((Fr.refl [w7.heap.size] w9).setCell (p := ⟨w7.heap.size, 1, none⟩) (.inl (by simp)) (.slice A9 L9 k9)).get hb9 (by simpa using hne9); obtain ⟨o0, o1, of_⟩ := nd_cells hb9'; clear ho9 hf9 hx9 hb9 hb9' hA hi9))

  go_ret2
  exact HA.out _ rfl
end Go.Proofs.YtokbhiokcoldbaaDoor
/- New, Has, Height of package btree; add at any node. -/
namespace Go.Proofs.YtokbhiokcoldbaaDoor
open Go.RowKit

theorem bt_add : ∀ (d lo : Nat) (t : Bt.T d), Bt.Ok d lo t → ∀ (w : World) (b : Nat) (F : List Nat) (x : Int), Nd d w b t F → F.Nodup → Bt.Up (Bt.all d t) →
    Calls Tryd.prog 64 #[.pointer (some ⟨b, 0, none⟩), .int .i64 x] w (BtA d w b F (Bt.add d t x))
  | 0, _, t, hok, w, b, F, x, h, _, hu => bt_add0 w b t F x h hok.2 hu
  | d + 1, lo, t, hok, w, b, F, x, h, hnd, hu => by
    obtain ⟨vk, vc, K, i, bi, s, Fi, hN, rfl⟩ := btN_of hok h hnd hu x
    have IH := fun W (hW : Nd d W bi s Fi) => bt_add d 2 s hN.ok W bi Fi x hW hN.ndk hN.ups
    rcases hadd : Bt.add d s x with ⟨s', o⟩
    cases o with
    | none => exact bt_addN1 hN hadd IH
    | some q =>
      obtain ⟨u, r⟩ := q
      by_cases h3 : t.1.length ≤ 3
      · exact bt_addN2 hN hadd IH h3
      · exact bt_addN3 hN hadd IH (by have := hN.four; omega)
/-- Block p holds the tree s, its root in block r; of all its blocks P holds. -/
structure BtS (P : Nat → Prop) (w : World) (p r : Nat) (F : List Nat) (s : Bt.Tree) : Prop where
  file : w.heap[p]? = some (.cells #[.pointer (some ⟨r, 0, none⟩), .int .i64 (s.many : Int)] 104 (0, 0))
  nd : Nd s.d w r s.t F
  nodup : F.Nodup
  gp : P p
  gF : ∀ x ∈ F, P x
  np : p ∉ F
def BtF (P : Nat → Prop) (w : World) (p : Nat) (s : Bt.Tree) : Prop := ∃ r F, BtS P w p r F s
def BtAns (P : Nat → Prop) (p : Nat) (v : Value) (s : Bt.Tree) (w : World) (e : Ending) (w' : World) : Prop := e = .returned v ∧ BtF (OrNew P w) w' p s ∧ FrP P w w'
section
variable {P P' Q : Nat → Prop} {w w' : World} {p r : Nat} {F : List Nat} {s : Bt.Tree}
theorem BtS.frP (h : BtS P w p r F s) (hf : FrP Q w w') (hPQ : ∀ k, P k → ¬ Q k) : BtS P w' p r F s :=
  ⟨(hf.block p (lt_of_heap h.file) (hPQ p h.gp)).trans h.file, h.nd.frP hf (fun x hx => hPQ x (h.gF x hx)), h.nodup, h.gp, h.gF, h.np⟩
theorem BtS.keep (h : BtS P w p r F s) (hf : Fr [] w w') : BtS P w' p r F s := h.frP (Q := fun _ => False) ((FrP.refl _ w).step hf (by simp)) (fun _ _ h => h)
theorem BtS.imp (h : BtS P w p r F s) (hp : ∀ k, P k → P' k) : BtS P' w p r F s := ⟨h.file, h.nd, h.nodup, hp _ h.gp, fun x hx => hp _ (h.gF x hx), h.np⟩
theorem BtF.keep (h : BtF P w p s) (hf : Fr [] w w') : BtF P w' p s := by
  obtain ⟨r, F, h⟩ := h
  exact ⟨r, F, h.keep hf⟩
theorem BtF.imp (h : BtF P w p s) (hp : ∀ k, P k → P' k) : BtF P' w p s := by
  obtain ⟨r, F, h⟩ := h
  exact ⟨r, F, h.imp hp⟩
theorem BtF.frP (h : BtF P w p s) (hf : FrP Q w w') (hPQ : ∀ k, P k → ¬ Q k) : BtF P w' p s := by
  obtain ⟨r, F, h⟩ := h
  exact ⟨r, F, h.frP hf hPQ⟩
theorem BtAns.none {v : Value} {e : Ending} (h : BtF P w p s) (he : e = .returned v) (hf : Fr [] w w') : BtAns P p v s w e w' := ⟨he, (h.keep hf).imp (fun _ h => .inl h), (FrP.refl P w).step hf (by simp)⟩
theorem BtS.cells (h : BtS P w p r F s) : w.cell? ⟨p, 0, none⟩ = some (.pointer (some ⟨r, 0, none⟩)) ∧ w.cell? ⟨p, 1, none⟩ = some (.int .i64 (s.many : Int)) ∧ ∀ i, w.frozen? ⟨p, i, none⟩ = false :=
  ⟨by rw [cell_of_row w p _ _ _ _ h.file]; rfl, by rw [cell_of_row w p _ _ _ _ h.file]; rfl, fun i => free_block h.file i none⟩
end
theorem bt_New (w : World) : Calls Tryd.prog 19 #[] w fun e w' => ∃ p, e = .returned (.pointer (some ⟨p, 0, none⟩)) ∧ BtF (w.heap.size ≤ ·) w' p Bt.new ∧ Fr [] w w' := by
  have HF : Hid (∀ W, W = (w.alloc (.cells #[.slice none 0 0, .slice none 0 0] 102)).alloc (.cells #[.pointer (some ⟨w.heap.size, 0, none⟩), .int .i64 0] 104) → BtF (w.heap.size ≤ ·) W (w.heap.size + 1) Bt.new ∧ Fr [] w W) := fun W hW => by
    subst hW
    have hs : (w.alloc (.cells #[.slice none 0 0, .slice none 0 0] 102)).heap.size = w.heap.size + 1 := by simp
    refine ⟨⟨w.heap.size, [w.heap.size], ⟨?_, ⟨_, ((Fr.refl [] _).alloc _).get (heap_alloc_new w _) (by simp), OwnR.nil, rfl⟩, by simp, by show w.heap.size ≤ w.heap.size + 1; omega, fun x hx => ?_, by simp⟩⟩, ((Fr.refl _ _).alloc _).alloc _⟩
    · have := heap_alloc_new (w.alloc (.cells #[.slice none 0 0, .slice none 0 0] 102)) (.cells #[.pointer (some ⟨w.heap.size, 0, none⟩), .int .i64 0] 104)
      rw [hs] at this
      exact this
    · simp only [List.mem_singleton] at hx
      subst hx
      exact Nat.le_refl _
  go_enter Tryd.func19, Tryd.ntmps19
  go_wp2
  go_ret
  exact ⟨_, rfl, HF.out _ rfl⟩
/-- What a loop down the tree meets at a node. -/
theorem nd_down {d : Nat} {w : World} {b : Nat} {t : Bt.T d} {F : List Nat} (h : Nd d w b t F) {lo : Nat} (hok : Bt.Ok d lo t) : ∃ vk, OwnR inE w 0 3 vk (Bt.ks d t) ∧ (Bt.ks d t).length ≤ 4 ∧
    ((d = 0 ∧ w.heap[b]? = some (.cells #[vk, .slice none 0 0] 102 (0, 0))) ∨
     ∃ d', ∃ e : d = d' + 1, ∃ gc cc n, w.heap[b]? = some (.cells #[vk, .slice (some ⟨gc, 0, none⟩) n cc] 102 (0, 0)) ∧ n = (Bt.ks d t).length + 1 ∧ n ≤ cc ∧ (e ▸ t : Bt.T (d' + 1)).2.length = n ∧
       ∀ i s, (e ▸ t : Bt.T (d' + 1)).2[i]? = some s → ∃ bi Fi, w.cell? ⟨gc, i, none⟩ = some (.pointer (some ⟨bi, 0, none⟩)) ∧ Nd d' w bi s Fi ∧ Bt.Ok d' 2 s) := by
  cases d with
  | zero =>
    obtain ⟨vk, h1, h2, _⟩ := h
    exact ⟨vk, h2, hok.2, .inl ⟨rfl, h1⟩⟩
  | succ d =>
    obtain ⟨vk, vc, K, h1, h2, h3, h4, h5, _⟩ := h
    have hl : (K.map (·.1)).length = t.1.length + 1 := by rw [List.length_map, ← hok.2.1, h4, List.length_map]
    obtain ⟨gc, cc, rfl, q2, q3, q4⟩ := own_cellP h3 (by omega)
    refine ⟨vk, h2, hok.1.2, .inr ⟨d, rfl, gc, cc, _, h1, hl, q2, by show t.2.length = _; rw [hok.2.1, hl], fun i s hs => ?_⟩⟩
    have hs' : t.2[i]? = some s := hs
    have hi : i < K.length := by
      rw [h4] at hs'
      have := (List.getElem?_eq_some_iff.1 hs').1
      simpa using this
    have hsK : (K[i]).2.1 = s := by
      rw [h4, List.getElem?_map, List.getElem?_eq_getElem hi] at hs'
      simpa using hs'
    have hc := q4 i (by simpa using hi)
    rw [List.getElem_map] at hc
    have hn := h5 _ (List.getElem_mem hi)
    rw [hsK] at hn
    exact ⟨_, _, hc, hn, hok.2.2 s (List.mem_of_getElem? hs')⟩
set_option maxRecDepth 100000 in
set_option maxHeartbeats 4000000 in
theorem bt_Height (w : World) (P : Nat → Prop) (p : Nat) (s : Bt.Tree) (h : BtF P w p s) (hO : s.OK) :
    Calls Tryd.prog 27 #[.pointer (some ⟨p, 0, none⟩)] w fun e w' => e = .returned (.int .i64 ((s.d : Int) + 1)) ∧ w' = w := by
  obtain ⟨r, F, hS⟩ := h
  obtain ⟨c0, -, -⟩ := hS.cells
  have HNB := Lib.hid (fun (gc n cc : Nat) (W : World) => Lib.run_eql_slice_nil (P := Tryd.prog) W 100 99 (some ⟨gc, 0, none⟩) n cc 0 0 Tryd.und_insP)
  have HNA := Lib.hid (fun (W : World) => Lib.run_eql_slice_nil (P := Tryd.prog) W 100 99 none 0 0 0 0 Tryd.und_insP)
  have hd3 := hO.deep
  have HR0 : Hid (∃ (d : Nat) (t : Bt.T d) (F : List Nat) (lo : Nat), Nd d w r t F ∧ Bt.Ok d lo t ∧ s.d = 0 + d) := ⟨s.d, s.t, F, _, hS.nd, hO.ok, by omega⟩
  generalize s.d = D at *
  clear hS hO
  go_enter Tryd.func27, Tryd.ntmps27
  go_wp2
  go_loop [3, 4] (fun hh n => ∃ k : Nat, k ≤ 3 ∧ hh = .int .i64 k ∧ ∃ b : Nat, n = .pointer (some ⟨b, 0, none⟩) ∧ Hid (∃ (d : Nat) (t : Bt.T d) (F : List Nat) (lo : Nat), Nd d w b t F ∧ Bt.Ok d lo t ∧ D = k + d)) (fun hh _ => 3 - (intOf hh).toNat)
  case atStart => exact ⟨0, by omega, rfl, r, rfl, HR0⟩
  case round =>
    clear HR0
    obtain ⟨k, hk, rfl, b, rfl, hR⟩ := hrel
    obtain ⟨d, t, F, lo, hN, hok, hD⟩ := hR.out
    obtain ⟨vk, -, -, ⟨hd, hb⟩ | ⟨d', hd, gc, cc, n, hb, hn, hnc, hln, hk2⟩⟩ := nd_down hN hok
    · obtain ⟨-, c1, -⟩ := nd_cells hb
      have hnl := HNA.out w
      have HDD := Lib.hid (show D = k by omega)
      clear hN hok hD hd hb hR hd3
      go_wp2
      go_ret
      exact ⟨by rw [HDD.out]; rfl, rfl⟩
    · obtain ⟨-, c1, -⟩ := nd_cells hb
      have hnl := HNB.out gc n cc w
      subst hd
      have hok' : Bt.Ok (d' + 1) lo t := hok
      obtain ⟨s0, hs0⟩ : ∃ s0, t.2[0]? = some s0 := ⟨_, List.getElem?_eq_getElem (by have h1 : t.2.length = n := hln; omega)⟩
      obtain ⟨b0, F0, hc, hN0, hok0⟩ := hk2 0 s0 hs0
      have hn0 : (0 : Int) < n := by omega
      have HR2 : Hid (∃ (d : Nat) (t : Bt.T d) (F : List Nat) (lo : Nat), Nd d w b0 t F ∧ Bt.Ok d lo t ∧ D = (k + 1) + d) := ⟨d', s0, F0, 2, hN0, hok0, by omega⟩
      have hk3 : k + 1 ≤ 3 := by omega
      clear hN hok hok' hD hb hR hk2 hs0 hN0 hok0 hln hn hd3
      go_wp2
      go_round
      case rel => exact ⟨k + 1, hk3, by go_num, b0, rfl, HR2⟩
      case measure => (simp [intOf]; try omega)
end Go.Proofs.YtokbhiokcoldbaaDoor
