/- add of package btree. -/

import Derived.Test.YtokbhiokcoldbaaDoorBq10
namespace Go.Proofs.YtokbhiokcoldbaaDoor
open Go.RowKit

theorem mem_set_erase {α : Type} {l : List α} {i : Nat} {q p : α} (h : p ∈ l.set i q) : p = q ∨ p ∈ l.eraseIdx i := by
  obtain ⟨j, hj, rfl⟩ := List.getElem_of_mem h
  rw [List.length_set] at hj
  by_cases hij : i = j
  · subst hij; left; rw [List.getElem_set_self]
  · right
    rw [List.getElem_set_ne hij]
    exact List.mem_eraseIdx_iff_getElem.2 ⟨j, hj, fun e => hij e.symm, rfl⟩
section
variable {d : Nat} {w : World} {b : Nat} {vk vc : Value} {K : List (Kd d)} {t : Bt.T (d + 1)} {lo : Nat}
/-- An inner node and the kid that add goes to. -/
structure BtN (d : Nat) (w : World) (b : Nat) (vk vc : Value) (K : List (Kd d)) (t : Bt.T (d + 1)) (x : Int) (i bi : Nat) (s : Bt.T d) (Fi : List Nat) : Prop where
  p : NdP d w b vk vc t.1 (K.map (·.1)) K
  t2 : t.2 = K.map (·.2.1)
  hi : i < K.length
  at_ : K[i] = (bi, s, Fi)
  ix : i = Bt.lb x t.1
  len : K.length = t.1.length + 1
  up : Bt.Up t.1
  four : t.1.length ≤ 4
  ok : Bt.Ok d 2 s
  ups : Bt.Up (Bt.all d s)
  kid : t.2[i]? = some s
theorem btN_of (hok : Bt.Ok (d + 1) lo t) {F : List Nat} (h : Nd (d + 1) w b t F) (hnd : F.Nodup) (hu : Bt.Up (Bt.all (d + 1) t)) (x : Int) : ∃ vk vc K i bi s Fi, BtN d w b vk vc K t x i bi s Fi ∧ F = fpt b vk vc K := by
  obtain ⟨vk, vc, K, h1, h2, h3, h4, h5, rfl⟩ := h
  obtain ⟨s, hs, hm, hi⟩ := Bt.kid_at hok x
  have hlen : K.length = t.1.length + 1 := by rw [← hok.2.1, h4, List.length_map]
  have hiK : Bt.lb x t.1 < K.length := by rw [hlen]; have := Bt.lb_le x t.1; omega
  have hml := Bt.map_len hok
  have hsK : (K[Bt.lb x t.1]).2.1 = s := by
    rw [h4, List.getElem?_map, List.getElem?_eq_getElem hiK] at hs
    simpa using hs
  refine ⟨vk, vc, K, Bt.lb x t.1, (K[Bt.lb x t.1]).1, s, (K[Bt.lb x t.1]).2.2, ⟨⟨h1, h2, h3, h5, hnd⟩, h4, hiK, by rw [← hsK], rfl, hlen, Bt.up_keys t.1 _ hml hu, hok.1.2, hok.2.2 s hm, Bt.up_kid t.1 _ hml hu _ (List.mem_map.2 ⟨s, hm, rfl⟩), hs⟩, rfl⟩
variable {x : Int} {i bi : Nat} {s s' r : Bt.T d} {Fi : List Nat}
theorem BtN.nd (h : BtN d w b vk vc K t x i bi s Fi) : Nd d w bi s Fi := by
  have := h.p.each _ (List.getElem_mem h.hi)
  rw [h.at_] at this
  exact this
theorem BtN.ndk (h : BtN d w b vk vc K t x i bi s Fi) : Fi.Nodup := by
  have h1 := h.p.nodup
  unfold fpt at h1
  rw [List.nodup_cons, List.nodup_append] at h1
  have h2 := h1.2.2.1
  have hm : Fi ∈ K.map (·.2.2) := List.mem_map.2 ⟨_, List.getElem_mem h.hi, by rw [h.at_]⟩
  have hs : Fi.Sublist (K.map (·.2.2)).flatten := List.sublist_flatten_of_mem hm
  exact h2.sublist hs
theorem BtN.bs (h : BtN d w b vk vc K t x i bi s Fi) : (K.map (·.1)).set i bi = K.map (·.1) := by
  have hi := h.hi
  have e : bi = (K.map (·.1))[i]'(by simpa using hi) := by rw [List.getElem_map, h.at_]
  rw [e]
  exact List.set_getElem_self _
/-- The kid has turned, without a split. -/
theorem BtN.one (h : BtN d w b vk vc K t x i bi s Fi) (hadd : Bt.add d s x = (s', none)) {w1 w2 : World} (hf : Fr [] w w1) {e : Ending} (ha : BtA d w1 bi Fi (Bt.add d s x) e w2) :
    e = .returned (.tuple #[.int .i64 0, .pointer none]) ∧ w2.heap[b]? = some (.cells #[vk, vc] 102 (0, 0)) ∧ BtA (d + 1) w b (fpt b vk vc K) (Bt.add (d + 1) t x) (.returned (.tuple #[.int .i64 0, .pointer none])) w2 := by
  rw [hadd] at ha
  obtain ⟨F', F2, a1, a2, a3, a4, a5, a6⟩ := ha
  subst a5
  rw [List.append_nil] at a2 a3
  have hp1 := h.p.keep hf
  have hi := h.hi
  have hat : K[i].2.2 = Fi := by rw [h.at_]
  obtain ⟨q1, q2, q3⟩ := hp1.kid (K' := K.set i (bi, s', F')) h.hi a2 (fun y hy => by rw [hat]; exact a3 y hy) (by rw [hat]; exact a4) (fun p hp => by
    rcases mem_set_erase hp with rfl | hp
    · exact .inr a1
    · exact .inl hp) (by rw [List.map_set])
  have hz := hf.size
  refine ⟨a6, q1.file, ?_⟩
  rw [Bt.add, ← h.ix, h.kid]
  simp only [hadd]
  have e1 : t.2.set i s' = (K.set i (bi, s', F')).map (·.2.1) := by rw [List.map_set, h.t2]
  have hd := q1.done (by rw [List.map_set]; exact h.bs.symm)
  refine ⟨_, [], by rw [e1]; exact hd, by rw [List.append_nil]; exact q1.nodup, fun y hy => ?_, ⟨q3.os.trans hf.os, q3.tape.trans hf.tape, q3.output.trans hf.output, Nat.le_trans hz q3.size, fun k hk hn => (q3.block k (Nat.lt_of_lt_of_le hk hz) hn).trans (hf.block k hk (by simp))⟩, rfl, rfl⟩
  rw [List.append_nil] at hy
  exact (q2 y hy).imp id (fun h => Nat.le_trans hz h)
/-- The kid has turned and was split. -/
theorem BtN.two (h : BtN d w b vk vc K t x i bi s Fi) {u : Int} (hadd : Bt.add d s x = (s', some (u, r))) {w1 w2 : World} (hf : Fr [] w w1) {e : Ending} (ha : BtA d w1 bi Fi (Bt.add d s x) e w2) :
    ∃ b2, ∃ K2 : List (Kd d), e = .returned (.tuple #[.int .i64 u, .pointer (some ⟨b2, 0, none⟩)]) ∧ NdP d w2 b vk vc t.1 (K.map (·.1)) K2 ∧ (∀ y ∈ fpt b vk vc K2, y ∈ fpt b vk vc K ∨ w.heap.size ≤ y) ∧ FrP (· ∈ fpt b vk vc K) w w2 ∧
      K2.map (·.1) = Bt.ins (K.map (·.1)) (i + 1) b2 ∧ K2.map (·.2.1) = Bt.ins (t.2.set i s') (i + 1) r := by
  rw [hadd] at ha
  obtain ⟨F', F2, a1, a2, a3, a4, b2, a5, a6⟩ := ha
  have hp1 := h.p.keep hf
  have hi := h.hi
  have hat : K[i].2.2 = Fi := by rw [h.at_]
  have hz := hf.size
  obtain ⟨q1, q2, q3⟩ := hp1.kid (K' := Bt.ins (K.set i (bi, s', F')) (i + 1) (b2, r, F2)) hi a2 (fun y hy => by rw [hat]; exact a3 y hy) (by rw [hat]; exact a4) (fun p hp => by
    rcases Bt.mem_ins hp with rfl | hp
    · exact .inr a6
    · rcases mem_set_erase hp with rfl | hp
      · exact .inr a1
      · exact .inl hp) (by rw [Bt.map_ins, List.map_set]; exact flat_ins (by simpa using hi) _ _)
  refine ⟨b2, _, a5, q1, fun y hy => (q2 y hy).imp id (fun h => Nat.le_trans hz h), ⟨q3.os.trans hf.os, q3.tape.trans hf.tape, q3.output.trans hf.output, Nat.le_trans hz q3.size, fun k hk hn => (q3.block k (Nat.lt_of_lt_of_le hk hz) hn).trans (hf.block k hk (by simp))⟩, ?_, ?_⟩
  · rw [Bt.map_ins, List.map_set]
    simp only
    rw [h.bs]
  · rw [Bt.map_ins, List.map_set, h.t2]
theorem BtN.add_two (h : BtN d w b vk vc K t x i bi s Fi) {u : Int} (hadd : Bt.add d s x = (s', some (u, r))) : Bt.add (d + 1) t x = Bt.cutN (Bt.ins t.1 i u) (Bt.ins (t.2.set i s') (i + 1) r) := by
  rw [Bt.add, ← h.ix, h.kid]
  simp only [hadd]
  rfl
/-- It has room. -/
theorem bt_end2 {w6 : World} {vk' vc' : Value} {K2 : List (Kd d)} {kk : List Int} {ts : List (Bt.T d)} {F : List Nat} (hp : NdP d w6 b vk' vc' kk (K2.map (·.1)) K2) (ht : K2.map (·.2.1) = ts) (h4 : kk.length ≤ 4)
    (hb : ∀ y ∈ fpt b vk' vc' K2, y ∈ F ∨ w.heap.size ≤ y) (hf : FrP (· ∈ F) w w6) : BtA (d + 1) w b F (Bt.cutN kk ts) (.returned (.tuple #[.int .i64 0, .pointer none])) w6 := by
  unfold Bt.cutN
  rw [if_pos h4]
  refine ⟨_, [], by rw [← ht]; exact hp.done rfl, by rw [List.append_nil]; exact hp.nodup, fun y hy => ?_, hf, rfl, rfl⟩
  rw [List.append_nil] at hy
  exact hb y hy
/-- It is split. -/
theorem bt_end3 {w6 w1 w4 : World} {g c gc cc : Nat} {cl cl2 : Value} {K2 : List (Kd d)} {kk : List Int} {ts : List (Bt.T d)} {F : List Nat} (hp : NdP d w6 b (.slice (some ⟨g, 0, none⟩) 5 c) (.slice (some ⟨gc, 0, none⟩) 6 cc) kk (K2.map (·.1)) K2) (ht : K2.map (·.2.1) = ts) (h5 : kk.length = 5) (h6 : (K2.map (·.1)).length = 6)
    (hb : ∀ y ∈ fpt b (.slice (some ⟨g, 0, none⟩) 5 c) (.slice (some ⟨gc, 0, none⟩) 6 cc) K2, y ∈ F ∨ w.heap.size ≤ y) (hf : FrP (· ∈ F) w w6) (hbF : b ∈ F)
    (hf1 : Fr [] w6 w1) (ho1 : OwnR inE w1 w6.heap.size 3 cl (kk.drop 3)) (w3 : World) (hw3 : w3 = (w1.alloc (.cells #[cl, .slice none 0 0] 102)).setCell ⟨b, 0, none⟩ (.slice (some ⟨g, 0, none⟩) 2 c))
    (hf4 : Fr [] w3 w4) (ho4 : OwnR pbE w4 w3.heap.size 99 cl2 ((K2.map (·.1)).drop 3)) (w9 : World) (hw9 : w9 = (w4.setCell ⟨w1.heap.size, 1, none⟩ cl2).setCell ⟨b, 1, none⟩ (.slice (some ⟨gc, 0, none⟩) 3 cc)) :
    BtA (d + 1) w b F (Bt.cutN kk ts) (.returned (.tuple #[.int .i64 (kk.getD 2 0), .pointer (some ⟨w1.heap.size, 0, none⟩)])) w9 := by
  obtain ⟨c1, c2, c3, c4, c5⟩ := hp.cut h5 h6 hf1 ho1 w3 hw3 hf4 ho4 w9 hw9
  unfold Bt.cutN
  rw [if_neg (by omega)]
  have hz := hf.size
  refine ⟨_, _, by rw [← ht, ← List.map_take]; exact c1.done (by rw [List.map_take]), c3, fun y hy => ?_, hf.step c5 (fun x hx => .inl (by simp only [List.mem_singleton] at hx; subst hx; exact hbF)), _, rfl, by rw [← ht, ← List.map_drop]; exact c2.done (by rw [List.map_drop])⟩
  rcases c4 y hy with h | h
  · exact hb y h
  · exact .inr (Nat.le_trans hz h)
end
end Go.Proofs.YtokbhiokcoldbaaDoor
/- add of package btree at an inner node; at any node. -/
namespace Go.Proofs.YtokbhiokcoldbaaDoor
open Go.RowKit

/-- What the walk at an inner node begins with. -/
structure BtW (d : Nat) (w : World) (b : Nat) (vk vc : Value) (t : Bt.T (d + 1)) (x : Int) (i bi gc cc : Nat) (bs : List Nat) : Prop where
  bs_ : Calls Tryd.prog 66 #[vk, .int .i64 x] w fun e w' => e = .returned (.tuple #[.int .i64 (i : Int), .bool (Bt.hasK t.1 x)]) ∧ Fr [] w w'
  vc_ : vc = .slice (some ⟨gc, 0, none⟩) bs.length cc
  cc_ : bs.length ≤ cc ∧ cc ≤ maxLen
  cells : ∀ W, Fr [] w W → W.cell? ⟨b, 0, none⟩ = some vk ∧ W.cell? ⟨b, 1, none⟩ = some vc ∧ W.cell? ⟨gc, i, none⟩ = some (.pointer (some ⟨bi, 0, none⟩))
  ix : i < bs.length ∧ bs.length ≤ 5
theorem btW_of {d : Nat} {w : World} {b : Nat} {vk vc : Value} {K : List (Kd d)} {t : Bt.T (d + 1)} {x : Int} {i bi : Nat} {s : Bt.T d} {Fi : List Nat} (h : BtN d w b vk vc K t x i bi s Fi) : ∃ gc cc, BtW d w b vk vc t x i bi gc cc (K.map (·.1)) := by
  have hl : (K.map (·.1)).length = K.length := List.length_map _
  have hi := h.hi
  obtain ⟨gc, cc, h1, h2, h3, h4⟩ := own_cellP h.p.kids (by omega)
  refine ⟨gc, cc, by rw [h.ix]; exact bs_own w vk t.1 x h.p.keys h.up (by have := h.four; omega), h1, ⟨h2, h3⟩, fun W hW => ?_, by omega, by have h5 := h.len; have h6 := h.four; omega⟩
  obtain ⟨c0, c1, -⟩ := nd_cells (hW.get h.p.file (by simp))
  refine ⟨c0, c1, ?_⟩
  have h5 := hW.cell (h4 i (by omega)) (by simp)
  rw [List.getElem_map, h.at_] at h5
  exact h5
set_option maxRecDepth 100000 in
set_option maxHeartbeats 4000000 in
theorem bt_addN1 {d : Nat} {w : World} {b : Nat} {vk vc : Value} {K : List (Kd d)} {t : Bt.T (d + 1)} {x : Int} {i bi : Nat} {s s' : Bt.T d} {Fi : List Nat} (h : BtN d w b vk vc K t x i bi s Fi) (hadd : Bt.add d s x = (s', none))
    (IH : ∀ W, Nd d W bi s Fi → Calls Tryd.prog 64 #[.pointer (some ⟨bi, 0, none⟩), .int .i64 x] W (BtA d W bi Fi (Bt.add d s x))) :
    Calls Tryd.prog 64 #[.pointer (some ⟨b, 0, none⟩), .int .i64 x] w (BtA (d + 1) w b (fpt b vk vc K) (Bt.add (d + 1) t x)) := by
  obtain ⟨gc, cc, hW⟩ := btW_of h
  have HBS := Lib.hid hW.bs_
  have HC := Lib.hid hW.cells
  have HI := Lib.hid (fun W (hf : Fr [] w W) => IH W (h.nd.keep hf))
  have HO := Lib.hid (fun w1 w2 e (hf : Fr [] w w1) (ha : BtA d w1 bi Fi (Bt.add d s x) e w2) => h.one hadd hf ha)
  obtain ⟨A, c, hvk, -⟩ := h.p.keys.form'
  have hvc := hW.vc_
  obtain ⟨hi, hb5⟩ := hW.ix
  have h4 := h.four
  have h4I : (t.1.length : Int) ≤ 4 := by omega
  have i0 : (0 : Int) ≤ i := by omega
  have iI : (i : Int) < ((K.map (·.1)).length : Nat) := by omega
  generalize (K.map (·.1)).length = nb at *
  generalize (Bt.add (d + 1) t x) = R at *
  generalize t.1.length = nk at *
  subst hvk
  subst hvc
  have HNE := Lib.hid (fun W => Lib.run_eql_slice_nil (P := Tryd.prog) W 100 99 (some ⟨gc, 0, none⟩) nb cc 0 0 Tryd.und_insP)
  have c0 := (HC.out w (Fr.refl _ _)).1
  clear h hW IH hadd
  go_enter Tryd.func64, Tryd.ntmps64
  go_wp2_with (first
    | (go_at_call 66; (with_reducible refine useC HBS.out ?_); rintro e w1 ⟨rfl, hf⟩; have HF1 := Lib.hid hf; obtain ⟨q0, q1, q2⟩ := HC.out w1 hf; have hnl := HNE.out w1; have HI1 := Lib.hid (HI.out w1 hf); clear hf)
    | (have hi' := HI1; go_at_call 64; (with_reducible refine useC HI1.out ?_); intro e w2 ha; obtain ⟨rfl, hb2, hA⟩ := HO.out w1 w2 e HF1.out ha; have HA := Lib.hid hA; obtain ⟨r0, -, -⟩ := nd_cells hb2; clear ha hA hb2))
  go_ret2
  exact HA.out
/-- The key that came up is laid into the row of keys. -/
theorem bt_mid1 {d : Nat} {w w2 w3 : World} {b : Nat} {vk vc v' : Value} {kk kk' : List Int} {bs : List Nat} {K K2 : List (Kd d)} (q1 : NdP d w2 b vk vc kk bs K2) (q2 : ∀ y ∈ fpt b vk vc K2, y ∈ fpt b vk vc K ∨ w.heap.size ≤ y) (q3 : FrP (· ∈ fpt b vk vc K) w w2)
    (ho : OwnR inE w3 0 3 v' kk') (hm : Moves w2 vk v') (hg : w2.grownBy w3 vk.ownBlock) (w4 : World) (h4 : w3.setCell ⟨b, 0, none⟩ v' = w4) :
    NdP d w4 b v' vc kk' bs K2 ∧ (∀ y ∈ fpt b v' vc K2, y ∈ fpt b vk vc K ∨ w.heap.size ≤ y) ∧ FrP (· ∈ fpt b vk vc K) w w4 := by
  subst h4
  obtain ⟨r1, r2, r3⟩ := q1.setK (fr_grown hg) ho hm
  have hz := q3.size
  refine ⟨r1, fun y hy => ?_, q3.step r2 (fun x hx => ?_)⟩
  · rcases r3 y hy with h | h
    · exact q2 y h
    · exact .inr (Nat.le_trans hz h)
  · refine .inl ?_
    unfold fpt
    rcases List.mem_cons.1 hx with rfl | hx
    · simp
    · simp [hx]
theorem bt_mid2 {d : Nat} {w w4 w5 : World} {b : Nat} {vk vk' vc v' : Value} {kk : List Int} {bs bs' : List Nat} {K K2 : List (Kd d)} (q1 : NdP d w4 b vk' vc kk bs K2) (q2 : ∀ y ∈ fpt b vk' vc K2, y ∈ fpt b vk vc K ∨ w.heap.size ≤ y) (q3 : FrP (· ∈ fpt b vk vc K) w w4)
    (ho : OwnR pbE w5 0 99 v' bs') (hm : Moves w4 vc v') (hg : w4.grownBy w5 vc.ownBlock) (w6 : World) (h6 : w5.setCell ⟨b, 1, none⟩ v' = w6) :
    NdP d w6 b vk' v' kk bs' K2 ∧ (∀ y ∈ fpt b vk' v' K2, y ∈ fpt b vk vc K ∨ w.heap.size ≤ y) ∧ FrP (· ∈ fpt b vk vc K) w w6 := by
  subst h6
  obtain ⟨r1, r2, r3⟩ := q1.setC (fr_grown hg) ho hm
  have hz := q3.size
  refine ⟨r1, fun y hy => ?_, q3.step r2 (fun x hx => ?_)⟩
  · rcases r3 y hy with h | h
    · exact q2 y h
    · exact .inr (Nat.le_trans hz h)
  · refine .inl ?_
    unfold fpt
    rcases List.mem_cons.1 hx with rfl | hx
    · simp
    · simp [hx]
set_option maxRecDepth 100000 in
set_option maxHeartbeats 4000000 in
theorem bt_addN2 {d : Nat} {w : World} {b : Nat} {vk vc : Value} {K : List (Kd d)} {t : Bt.T (d + 1)} {x : Int} {i bi : Nat} {s s' r : Bt.T d} {u : Int} {Fi : List Nat} (h : BtN d w b vk vc K t x i bi s Fi) (hadd : Bt.add d s x = (s', some (u, r)))
    (IH : ∀ W, Nd d W bi s Fi → Calls Tryd.prog 64 #[.pointer (some ⟨bi, 0, none⟩), .int .i64 x] W (BtA d W bi Fi (Bt.add d s x))) (h3 : t.1.length ≤ 3) :
    Calls Tryd.prog 64 #[.pointer (some ⟨b, 0, none⟩), .int .i64 x] w (BtA (d + 1) w b (fpt b vk vc K) (Bt.add (d + 1) t x)) := by
  obtain ⟨gc, cc, hW⟩ := btW_of h
  have HBS := Lib.hid hW.bs_
  have HC := Lib.hid hW.cells
  have HI := Lib.hid (fun W (hf : Fr [] w W) => IH W (h.nd.keep hf))
  have HO := Lib.hid (fun w1 w2 e (hf : Fr [] w w1) (ha : BtA d w1 bi Fi (Bt.add d s x) e w2) => h.two hadd hf ha)
  obtain ⟨A, c, hvk, -⟩ := h.p.keys.form'
  have hvc := hW.vc_
  obtain ⟨hi, hb5⟩ := hW.ix
  have h4 := h.four
  have HT4 := Lib.hid h4
  have HIX : Hid (i ≤ t.1.length) := by show i ≤ _; rw [h.ix]; exact Bt.lb_le x t.1
  have HIY : Hid (i + 1 ≤ (K.map (·.1)).length) := by show _ ≤ _; omega
  have HNB : Hid ((K.map (·.1)).length ≤ 100000) := by show _ ≤ _; omega
  have HKL : Hid ((Bt.ins t.1 i u).length = t.1.length + 1) := Bt.ins_len _ _ _ HIX.out
  have HBL : Hid (∀ y, (Bt.ins (K.map (·.1)) (i + 1) y).length = (K.map (·.1)).length + 1) := fun y => Bt.ins_len _ _ _ HIY.out
  have HBT : Hid ((K.map (·.1)).length = t.1.length + 1) := by show _ = _; rw [List.length_map, h.len]
  have HAD := Lib.hid (h.add_two hadd)
  have i0 : (0 : Int) ≤ i := by omega
  have iI : (i : Int) < ((K.map (·.1)).length : Nat) := by omega
  have iw : IntKind.i64.wrap ((i : Int) + 1) = (i : Int) + 1 := by rw [IntKind.wrap_i64]; omega
  obtain ⟨nb, hnb⟩ : ∃ nb, (K.map (·.1)).length = nb := ⟨_, rfl⟩
  obtain ⟨nk, hnk⟩ : ∃ nk, t.1.length = nk := ⟨_, rfl⟩
  rw [hnb] at hvc iI hi hb5
  rw [hnk] at hvk h4
  have HNBE := Lib.hid hnb
  have HNKE := Lib.hid hnk
  generalize (Bt.add (d + 1) t x) = R at *
  subst hvk
  subst hvc
  have HNE := Lib.hid (fun W => Lib.run_eql_slice_nil (P := Tryd.prog) W 100 99 (some ⟨gc, 0, none⟩) nb cc 0 0 Tryd.und_insP)
  have HBF : Hid (b ∈ fpt b (.slice A nk c) (.slice (some ⟨gc, 0, none⟩) nb cc) K) := by show b ∈ _; unfold fpt; simp
  have c0 := (HC.out w (Fr.refl _ _)).1
  have k4I : ((nk : Int) + 1) ≤ 4 := by have := HNKE.out; omega
  have HK4 : Hid ((Bt.ins t.1 i u).length ≤ 4) := by show _ ≤ _; rw [HKL.out]; omega
  clear hnb hnk h hW IH hadd h3
  go_enter Tryd.func64, Tryd.ntmps64
  go_wp2_with (first
    | (go_at_call 66; (with_reducible refine useC HBS.out ?_); rintro e w1 ⟨rfl, hf⟩; have HF1 := Lib.hid hf; obtain ⟨q0, q1, q2⟩ := HC.out w1 hf; have hnl := HNE.out w1; have HI1 := Lib.hid (HI.out w1 hf); clear hf)
    | (have hi' := HI1; go_at_call 64; (with_reducible refine useC HI1.out ?_); intro e w2 ha; obtain ⟨b2, K2, rfl, p1, p2, p3, p4, p5⟩ := HO.out w1 w2 e HF1.out ha; have HP2 := Lib.hid p1; have HB2 := Lib.hid p2; have HG2 := Lib.hid p3; have HK1 := Lib.hid p4; have HK2 := Lib.hid p5; obtain ⟨r0, r1, rf⟩ := nd_cells p1.file; have HIN := Lib.hid (insI (w2.alloc (.cells #[.int .i64 u] 3)) 0 _ i t.1 u w2.heap.size (p1.keys.alloc _) HIX.out (heap_alloc_new w2 _) (fun e => by have := (p1.keys.ge _ e).2; omega) (by have := HT4.out; omega) (Nat.zero_le _)); clear ha p1 p2 p3 p4 p5 hi')
    | (have hj' := HIN; go_at_call 81; (with_reducible refine useC HIN.out ?_); intro e w3 ha; have ha := ha.of ((Fr.refl [] w2).alloc _); obtain ⟨⟨v', he, ho3, hv3⟩, hg3⟩ := ha; subst he; replace ho3 : OwnR inE w3 0 3 v' (Bt.ins t.1 i u) := ho3; have hb3 := (fr_grown hg3).get HP2.out.file (nodup_parts HP2.out.nodup).1; obtain ⟨A', c', hv', -⟩ := ho3.form'; rw [HKL.out, HNKE.out] at hv'; subst hv'; obtain ⟨w4, hw4⟩ : ∃ w4, w3.setCell ⟨b, 0, none⟩ (.slice A' (nk + 1) c') = w4 := ⟨_, rfl⟩; obtain ⟨m1, m2, m3⟩ := bt_mid1 HP2.out HB2.out HG2.out ho3 hv3 hg3 w4 hw4; have HP4 := Lib.hid m1; have HB4 := Lib.hid m2; have HG4 := Lib.hid m3; obtain ⟨t0, t1, tf⟩ := nd_cells hb3; obtain ⟨s0, s1, sf⟩ := nd_cells m1.file; have HW4 := Lib.hid hw4; have hpi := insP (w4.alloc (.cells #[.pointer (some ⟨b2, 0, none⟩)] 99)) 0 _ (i + 1) (K.map (·.1)) b2 w4.heap.size (m1.kids.alloc _) HIY.out (heap_alloc_new w4 _) (fun e => by have := (m1.kids.ge _ e).2; omega) HNB.out (Nat.zero_le _); rw [show ((i + 1 : Nat) : Int) = (i : Int) + 1 from (by omega)] at hpi; have HIP := Lib.hid hpi; clear hpi hb3 ho3 hv3 hg3 hw4 m1 m2 m3 hj')
    | (have hk' := HIP; go_at_call 82; (with_reducible refine useC HIP.out ?_); intro e w5 ha; have ha := ha.of ((Fr.refl [] w4).alloc _); obtain ⟨⟨vc', he, ho5, hv5⟩, hg5⟩ := ha; subst he; replace ho5 : OwnR pbE w5 0 99 vc' (Bt.ins (K.map (·.1)) (i + 1) b2) := ho5; have hb5 := (fr_grown hg5).get HP4.out.file (nodup_parts HP4.out.nodup).2.1; obtain ⟨A5, c5, hv5', -⟩ := ho5.form'; have hle5 := HBL.out b2; obtain ⟨L5, hL5⟩ : ∃ L5, (Bt.ins (K.map (·.1)) (i + 1) b2).length = L5 := ⟨_, rfl⟩; have hv6 := hv5'.trans (congrArg (fun n => Value.slice A5 n c5) hL5); clear hv5' hle5 hL5; subst hv6; obtain ⟨w6, hw6⟩ : ∃ w6, w5.setCell ⟨b, 1, none⟩ (.slice A5 L5 c5) = w6 := ⟨_, rfl⟩; obtain ⟨m1, m2, m3⟩ := bt_mid2 HP4.out HB4.out HG4.out ho5 hv5 hg5 w6 hw6; obtain ⟨x0, x1, xf⟩ := nd_cells hb5; obtain ⟨y0, y1, yf⟩ := nd_cells m1.file; have HW6 := Lib.hid hw6; have hnd6 := m1; rw [show Bt.ins (K.map (·.1)) (i + 1) b2 = K2.map (·.1) from HK1.out.symm] at hnd6; have hA := bt_end2 (w := w) hnd6 HK2.out HK4.out m2 m3; rw [← HAD.out] at hA; have HA := Lib.hid hA; clear hA hnd6; clear hb5 ho5 hv5 hg5 hw6 m1 m2 m3 hk')
    | (have hw' := HW6; rw [HW6.out])
    | (have hw' := HW4; rw [HW4.out]))

  go_ret2
  exact HA.out
end Go.Proofs.YtokbhiokcoldbaaDoor
