/- add of package btree. -/
import Derived.Test.YtokbhiokcoldbaaBtCut
namespace Go.Proofs.Ytokbhiokcoldbaa
open Go.RowKit

theorem mem_set_erase {α : Type} {l : List α} {i : Nat} {q p : α} (h : p ∈ l.set i q) : p = q ∨ p ∈ l.eraseIdx i := by
  obtain ⟨j, hj, rfl⟩ := List.getElem_of_mem h
  rw [List.length_set] at hj
  by_cases hij : i = j
  · subst hij; left; rw [List.getElem_set_self]
  · right
    rw [List.getElem_set_ne hij]
    exact List.mem_eraseIdx_iff_getElem.2 ⟨j, hj, fun e => hij e.symm, rfl⟩
section
variable {d : Nat} {w : World} {b : Nat} {vk vc : Value} {K : List (Kd d)} {t : Bt.T (d + 1)} {lo : Nat}
/-- An inner node and the kid that add goes to. -/
structure BtN (d : Nat) (w : World) (b : Nat) (vk vc : Value) (K : List (Kd d)) (t : Bt.T (d + 1)) (x : Int) (i bi : Nat) (s : Bt.T d) (Fi : List Nat) : Prop where
  p : NdP d w b vk vc t.1 (K.map (·.1)) K
  t2 : t.2 = K.map (·.2.1)
  hi : i < K.length
  at_ : K[i] = (bi, s, Fi)
  ix : i = Bt.lb x t.1
  len : K.length = t.1.length + 1
  up : Bt.Up t.1
  four : t.1.length ≤ 4
  ok : Bt.Ok d 2 s
  ups : Bt.Up (Bt.all d s)
  kid : t.2[i]? = some s
theorem btN_of (hok : Bt.Ok (d + 1) lo t) {F : List Nat} (h : Nd (d + 1) w b t F) (hnd : F.Nodup) (hu : Bt.Up (Bt.all (d + 1) t)) (x : Int) : ∃ vk vc K i bi s Fi, BtN d w b vk vc K t x i bi s Fi ∧ F = fpt b vk vc K := by
  obtain ⟨vk, vc, K, h1, h2, h3, h4, h5, rfl⟩ := h
  obtain ⟨s, hs, hm, hi⟩ := Bt.kid_at hok x
  have hlen : K.length = t.1.length + 1 := by rw [← hok.2.1, h4, List.length_map]
  have hiK : Bt.lb x t.1 < K.length := by rw [hlen]; have := Bt.lb_le x t.1; omega
  have hml := Bt.map_len hok
  have hsK : (K[Bt.lb x t.1]).2.1 = s := by
    rw [h4, List.getElem?_map, List.getElem?_eq_getElem hiK] at hs
    simpa using hs
  refine ⟨vk, vc, K, Bt.lb x t.1, (K[Bt.lb x t.1]).1, s, (K[Bt.lb x t.1]).2.2, ⟨⟨h1, h2, h3, h5, hnd⟩, h4, hiK, by rw [← hsK], rfl, hlen, Bt.up_keys t.1 _ hml hu, hok.1.2, hok.2.2 s hm, Bt.up_kid t.1 _ hml hu _ (List.mem_map.2 ⟨s, hm, rfl⟩), hs⟩, rfl⟩
variable {x : Int} {i bi : Nat} {s s' r : Bt.T d} {Fi : List Nat}
theorem BtN.nd (h : BtN d w b vk vc K t x i bi s Fi) : Nd d w bi s Fi := by
  have := h.p.each _ (List.getElem_mem h.hi)
  rw [h.at_] at this
  exact this
theorem BtN.ndk (h : BtN d w b vk vc K t x i bi s Fi) : Fi.Nodup := by
  have h1 := h.p.nodup
  unfold fpt at h1
  rw [List.nodup_cons, List.nodup_append] at h1
  have h2 := h1.2.2.1
  have hm : Fi ∈ K.map (·.2.2) := List.mem_map.2 ⟨_, List.getElem_mem h.hi, by rw [h.at_]⟩
  have hs : Fi.Sublist (K.map (·.2.2)).flatten := List.sublist_flatten_of_mem hm
  exact h2.sublist hs
theorem BtN.bs (h : BtN d w b vk vc K t x i bi s Fi) : (K.map (·.1)).set i bi = K.map (·.1) := by
  have hi := h.hi
  have e : bi = (K.map (·.1))[i]'(by simpa using hi) := by rw [List.getElem_map, h.at_]
  rw [e]
  exact List.set_getElem_self _
/-- The kid has turned, without a split. -/
theorem BtN.one (h : BtN d w b vk vc K t x i bi s Fi) (hadd : Bt.add d s x = (s', none)) {w1 w2 : World} (hf : Fr [] w w1) {e : Ending} (ha : BtA d w1 bi Fi (Bt.add d s x) e w2) :
    e = .returned (.tuple #[.int .i64 0, .pointer none]) ∧ w2.heap[b]? = some (.cells #[vk, vc] 63 (0, 0)) ∧ BtA (d + 1) w b (fpt b vk vc K) (Bt.add (d + 1) t x) (.returned (.tuple #[.int .i64 0, .pointer none])) w2 := by
  rw [hadd] at ha
  obtain ⟨F', F2, a1, a2, a3, a4, a5, a6⟩ := ha
  subst a5
  rw [List.append_nil] at a2 a3
  have hp1 := h.p.keep hf
  have hi := h.hi
  have hat : K[i].2.2 = Fi := by rw [h.at_]
  obtain ⟨q1, q2, q3⟩ := hp1.kid (K' := K.set i (bi, s', F')) h.hi a2 (fun y hy => by rw [hat]; exact a3 y hy) (by rw [hat]; exact a4) (fun p hp => by
    rcases mem_set_erase hp with rfl | hp
    · exact .inr a1
    · exact .inl hp) (by rw [List.map_set])
  have hz := hf.size
  refine ⟨a6, q1.file, ?_⟩
  rw [Bt.add, ← h.ix, h.kid]
  simp only [hadd]
  have e1 : t.2.set i s' = (K.set i (bi, s', F')).map (·.2.1) := by rw [List.map_set, h.t2]
  have hd := q1.done (by rw [List.map_set]; exact h.bs.symm)
  refine ⟨_, [], by rw [e1]; exact hd, by rw [List.append_nil]; exact q1.nodup, fun y hy => ?_, ⟨q3.os.trans hf.os, q3.tape.trans hf.tape, q3.output.trans hf.output, Nat.le_trans hz q3.size, fun k hk hn => (q3.block k (Nat.lt_of_lt_of_le hk hz) hn).trans (hf.block k hk (by simp))⟩, rfl, rfl⟩
  rw [List.append_nil] at hy
  exact (q2 y hy).imp id (fun h => Nat.le_trans hz h)
/-- The kid has turned and was split. -/
theorem BtN.two (h : BtN d w b vk vc K t x i bi s Fi) {u : Int} (hadd : Bt.add d s x = (s', some (u, r))) {w1 w2 : World} (hf : Fr [] w w1) {e : Ending} (ha : BtA d w1 bi Fi (Bt.add d s x) e w2) :
    ∃ b2, ∃ K2 : List (Kd d), e = .returned (.tuple #[.int .i64 u, .pointer (some ⟨b2, 0, none⟩)]) ∧ NdP d w2 b vk vc t.1 (K.map (·.1)) K2 ∧ (∀ y ∈ fpt b vk vc K2, y ∈ fpt b vk vc K ∨ w.heap.size ≤ y) ∧ FrP (· ∈ fpt b vk vc K) w w2 ∧
      K2.map (·.1) = Bt.ins (K.map (·.1)) (i + 1) b2 ∧ K2.map (·.2.1) = Bt.ins (t.2.set i s') (i + 1) r := by
  rw [hadd] at ha
  obtain ⟨F', F2, a1, a2, a3, a4, b2, a5, a6⟩ := ha
  have hp1 := h.p.keep hf
  have hi := h.hi
  have hat : K[i].2.2 = Fi := by rw [h.at_]
  have hz := hf.size
  obtain ⟨q1, q2, q3⟩ := hp1.kid (K' := Bt.ins (K.set i (bi, s', F')) (i + 1) (b2, r, F2)) hi a2 (fun y hy => by rw [hat]; exact a3 y hy) (by rw [hat]; exact a4) (fun p hp => by
    rcases Bt.mem_ins hp with rfl | hp
    · exact .inr a6
    · rcases mem_set_erase hp with rfl | hp
      · exact .inr a1
      · exact .inl hp) (by rw [Bt.map_ins, List.map_set]; exact flat_ins (by simpa using hi) _ _)
  refine ⟨b2, _, a5, q1, fun y hy => (q2 y hy).imp id (fun h => Nat.le_trans hz h), ⟨q3.os.trans hf.os, q3.tape.trans hf.tape, q3.output.trans hf.output, Nat.le_trans hz q3.size, fun k hk hn => (q3.block k (Nat.lt_of_lt_of_le hk hz) hn).trans (hf.block k hk (by simp))⟩, ?_, ?_⟩
  · rw [Bt.map_ins, List.map_set]
    simp only
    rw [h.bs]
  · rw [Bt.map_ins, List.map_set, h.t2]
theorem BtN.add_two (h : BtN d w b vk vc K t x i bi s Fi) {u : Int} (hadd : Bt.add d s x = (s', some (u, r))) : Bt.add (d + 1) t x = Bt.cutN (Bt.ins t.1 i u) (Bt.ins (t.2.set i s') (i + 1) r) := by
  rw [Bt.add, ← h.ix, h.kid]
  simp only [hadd]
  rfl
/-- It has room. -/
theorem bt_end2 {w6 : World} {vk' vc' : Value} {K2 : List (Kd d)} {kk : List Int} {ts : List (Bt.T d)} {F : List Nat} (hp : NdP d w6 b vk' vc' kk (K2.map (·.1)) K2) (ht : K2.map (·.2.1) = ts) (h4 : kk.length ≤ 4)
    (hb : ∀ y ∈ fpt b vk' vc' K2, y ∈ F ∨ w.heap.size ≤ y) (hf : FrP (· ∈ F) w w6) : BtA (d + 1) w b F (Bt.cutN kk ts) (.returned (.tuple #[.int .i64 0, .pointer none])) w6 := by
  unfold Bt.cutN
  rw [if_pos h4]
  refine ⟨_, [], by rw [← ht]; exact hp.done rfl, by rw [List.append_nil]; exact hp.nodup, fun y hy => ?_, hf, rfl, rfl⟩
  rw [List.append_nil] at hy
  exact hb y hy
/-- It is split. -/
theorem bt_end3 {w6 w1 w4 : World} {g c gc cc : Nat} {cl cl2 : Value} {K2 : List (Kd d)} {kk : List Int} {ts : List (Bt.T d)} {F : List Nat} (hp : NdP d w6 b (.slice (some ⟨g, 0, none⟩) 5 c) (.slice (some ⟨gc, 0, none⟩) 6 cc) kk (K2.map (·.1)) K2) (ht : K2.map (·.2.1) = ts) (h5 : kk.length = 5) (h6 : (K2.map (·.1)).length = 6)
    (hb : ∀ y ∈ fpt b (.slice (some ⟨g, 0, none⟩) 5 c) (.slice (some ⟨gc, 0, none⟩) 6 cc) K2, y ∈ F ∨ w.heap.size ≤ y) (hf : FrP (· ∈ F) w w6) (hbF : b ∈ F)
    (hf1 : Fr [] w6 w1) (ho1 : OwnR inE w1 w6.heap.size 3 cl (kk.drop 3)) (w3 : World) (hw3 : w3 = (w1.alloc (.cells #[cl, .slice none 0 0] 63)).setCell ⟨b, 0, none⟩ (.slice (some ⟨g, 0, none⟩) 2 c))
    (hf4 : Fr [] w3 w4) (ho4 : OwnR pbE w4 w3.heap.size 58 cl2 ((K2.map (·.1)).drop 3)) (w9 : World) (hw9 : w9 = (w4.setCell ⟨w1.heap.size, 1, none⟩ cl2).setCell ⟨b, 1, none⟩ (.slice (some ⟨gc, 0, none⟩) 3 cc)) :
    BtA (d + 1) w b F (Bt.cutN kk ts) (.returned (.tuple #[.int .i64 (kk.getD 2 0), .pointer (some ⟨w1.heap.size, 0, none⟩)])) w9 := by
  obtain ⟨c1, c2, c3, c4, c5⟩ := hp.cut h5 h6 hf1 ho1 w3 hw3 hf4 ho4 w9 hw9
  unfold Bt.cutN
  rw [if_neg (by omega)]
  have hz := hf.size
  refine ⟨_, _, by rw [← ht, ← List.map_take]; exact c1.done (by rw [List.map_take]), c3, fun y hy => ?_, hf.step c5 (fun x hx => .inl (by simp only [List.mem_singleton] at hx; subst hx; exact hbF)), _, rfl, by rw [← ht, ← List.map_drop]; exact c2.done (by rw [List.map_drop])⟩
  rcases c4 y hy with h | h
  · exact hb y h
  · exact .inr (Nat.le_trans hz h)
end
end Go.Proofs.Ytokbhiokcoldbaa
