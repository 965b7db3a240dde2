/- What the steps of add do to an inner node's memory. -/

import Derived.Test.YtokbhiokcoldbaaTkM18
namespace Go.Proofs.Ytokbhiokcoldbaa
open Go.RowKit

theorem nd_mid {U Fi V X : List Nat} {N : Nat} (h : (U ++ Fi ++ V).Nodup) (hX : X.Nodup) (hx : ∀ y ∈ X, y ∈ Fi ∨ N ≤ y) (hN : ∀ y ∈ U ++ V, y < N) : (U ++ X ++ V).Nodup := by
  rw [List.append_assoc, List.nodup_append, List.nodup_append] at h ⊢
  obtain ⟨h1, ⟨h2, h3, h4⟩, h5⟩ := h
  refine ⟨h1, ⟨hX, h3, fun y hy z hz => ?_⟩, fun y hy z hz => ?_⟩
  · rcases hx y hy with hf | hf
    · exact h4 y hf z hz
    · have := hN z (List.mem_append.2 (.inr hz)); omega
  · rcases List.mem_append.1 hz with hz | hz
    · rcases hx z hz with hf | hf
      · exact h5 y hy z (List.mem_append.2 (.inl hf))
      · have := hN y (List.mem_append.2 (.inl hy)); omega
    · exact h5 y hy z (List.mem_append.2 (.inr hz))
theorem flat_split {L : List (List Nat)} {i : Nat} (h : i < L.length) : L.flatten = (L.take i).flatten ++ L[i] ++ (L.drop (i + 1)).flatten := by
  conv => lhs; rw [← List.take_append_drop i L, List.drop_eq_getElem_cons h]
  rw [List.flatten_append, List.flatten_cons, List.append_assoc]
theorem flat_set {L : List (List Nat)} {i : Nat} (h : i < L.length) (X : List Nat) : (L.set i X).flatten = (L.take i).flatten ++ X ++ (L.drop (i + 1)).flatten := by
  rw [List.set_eq_take_append_cons_drop, if_pos h]
  simp
theorem flat_ins {L : List (List Nat)} {i : Nat} (h : i < L.length) (X Y : List Nat) : (Bt.ins (L.set i X) (i + 1) Y).flatten = (L.set i (X ++ Y)).flatten := by
  rw [flat_set h]
  unfold Bt.ins
  rw [List.take_set, List.drop_set_of_lt (by omega), List.flatten_append, List.flatten_cons]
  have e : ((L.take (i + 1)).set i X).flatten = (L.take i).flatten ++ X := by
    rw [flat_set (by rw [List.length_take]; omega)]
    rw [List.take_take, Nat.min_eq_left (by omega), List.drop_of_length_le (by rw [List.length_take]; omega)]
    simp
  rw [e]
  simp
def fpt {d : Nat} (b : Nat) (vk vc : Value) (K : List (Kd d)) : List Nat := b :: (obl vk ++ obl vc ++ (K.map (·.2.2)).flatten)
/-- An inner node, in pieces. -/
structure NdP (d : Nat) (w : World) (b : Nat) (vk vc : Value) (kk : List Int) (bs : List Nat) (K : List (Kd d)) : Prop where
  file : w.heap[b]? = some (.cells #[vk, vc] 63 (0, 0))
  keys : OwnR inE w 0 3 vk kk
  kids : OwnR pbE w 0 58 vc bs
  each : ∀ p ∈ K, Nd d w p.1 p.2.1 p.2.2
  nodup : (fpt b vk vc K).Nodup
section
variable {d : Nat} {w w2 : World} {b : Nat} {vk vc v' : Value} {kk kk' : List Int} {bs bs' : List Nat} {K K' : List (Kd d)}
theorem NdP.lt (h : NdP d w b vk vc kk bs K) : ∀ x ∈ fpt b vk vc K, x < w.heap.size := fun x hx => by
  rcases List.mem_cons.1 hx with rfl | hx
  · exact lt_of_heap h.file
  · simp only [List.mem_append, List.mem_flatten, List.mem_map] at hx
    rcases hx with (hx | hx) | ⟨_, ⟨p, hp, rfl⟩, hx⟩
    · exact (h.keys.ge x (mem_obl.1 hx)).2
    · exact (h.kids.ge x (mem_obl.1 hx)).2
    · exact (h.each p hp).lt x hx
theorem NdP.sub (h : NdP d w b vk vc kk bs K) {p : Kd d} (hp : p ∈ K) : ∀ x ∈ p.2.2, x ∈ fpt b vk vc K := fun x hx => by
  unfold fpt
  simp only [List.mem_cons, List.mem_append, List.mem_flatten, List.mem_map]
  exact .inr (.inr ⟨_, ⟨p, hp, rfl⟩, hx⟩)
theorem NdP.frP {P : Nat → Prop} (h : NdP d w b vk vc kk bs K) (hf : FrP P w w2) (hn : ∀ x ∈ fpt b vk vc K, ¬ P x) : NdP d w2 b vk vc kk bs K :=
  ⟨(hf.block b (lt_of_heap h.file) (hn b (by simp [fpt]))).trans h.file, h.keys.frP' hf (fun g hg => hn g (by simp [fpt, mem_obl.2 hg])), h.kids.frP' hf (fun g hg => hn g (by simp [fpt, mem_obl.2 hg])), fun p hp => (h.each p hp).frP hf (fun x hx => hn x (h.sub hp x hx)), h.nodup⟩
theorem NdP.keep (h : NdP d w b vk vc kk bs K) (hf : Fr [] w w2) : NdP d w2 b vk vc kk bs K := h.frP (P := fun _ => False) ((FrP.refl _ w).step hf (by simp)) (fun _ _ h => h)
theorem NdP.done (h : NdP d w b vk vc kk bs K) (hb : bs = K.map (·.1)) : Nd (d + 1) w b (kk, K.map (·.2.1)) (fpt b vk vc K) := ⟨vk, vc, K, h.file, h.keys, by rw [← hb]; exact h.kids, rfl, h.each, rfl⟩
theorem nodup_parts (h : (fpt b vk vc K).Nodup) : b ∉ obl vk ∧ b ∉ obl vc ∧ (∀ p ∈ K, b ∉ p.2.2 ∧ (∀ x ∈ obl vk, x ∉ p.2.2) ∧ ∀ x ∈ obl vc, x ∉ p.2.2) ∧ (∀ x ∈ obl vk, x ∉ obl vc) := by
  unfold fpt at h
  rw [List.nodup_cons, List.append_assoc, List.nodup_append, List.nodup_append] at h
  obtain ⟨h1, h2, ⟨h3, h4, h5⟩, h6⟩ := h
  simp only [List.mem_append, List.mem_flatten, List.mem_map, not_or] at h1
  refine ⟨h1.1, h1.2.1, fun p hp => ⟨fun hm => h1.2.2 ⟨_, ⟨p, hp, rfl⟩, hm⟩, fun x hx hm => ?_, fun x hx hm => ?_⟩, fun x hx hm => h6 x hx x (List.mem_append.2 (.inl hm)) rfl⟩
  · exact h6 x hx x (List.mem_append.2 (.inr (List.mem_flatten.2 ⟨_, List.mem_map.2 ⟨p, hp, rfl⟩, hm⟩))) rfl
  · exact h5 x hx x (List.mem_flatten.2 ⟨_, List.mem_map.2 ⟨p, hp, rfl⟩, hm⟩) rfl
/-- The row of keys is another one. -/
theorem NdP.setK (h : NdP d w b vk vc kk bs K) (hf : Fr (obl vk) w w2) (hn : OwnR inE w2 0 3 v' kk') (hv : Moves w vk v') :
    NdP d (w2.setCell ⟨b, 0, none⟩ v') b v' vc kk' bs K ∧ Fr (b :: obl vk) w (w2.setCell ⟨b, 0, none⟩ v') ∧ (∀ y ∈ fpt b v' vc K, y ∈ fpt b vk vc K ∨ w.heap.size ≤ y) := by
  obtain ⟨k1, k2, k3, k4, k5⟩ := nd_setK h.file h.keys hf hn hv
  obtain ⟨n1, n2, n3, n4⟩ := nodup_parts h.nodup
  have hbnd : ∀ y ∈ fpt b v' vc K, y ∈ fpt b vk vc K ∨ w.heap.size ≤ y := fun y hy => by
    unfold fpt at hy ⊢
    simp only [List.mem_cons, List.mem_append] at hy ⊢
    rcases hy with hy | (hy | hy) | hy
    · exact .inl (.inl hy)
    · exact (k4 y hy).imp (fun h => .inr (.inl (.inl h))) id
    · exact .inl (.inr (.inl (.inr hy)))
    · exact .inl (.inr (.inr hy))
  have hlt := h.lt
  refine ⟨⟨k1, k2, h.kids.kept k3 (fun x hx e => ?_), fun p hp => (h.each p hp).fr k3 (fun x hx => ?_), ?_⟩, k3, hbnd⟩
  · rcases List.mem_cons.1 hx with rfl | hx
    · exact n2 (mem_obl.2 e)
    · exact n4 x hx (mem_obl.2 e)
  · rcases List.mem_cons.1 hx with rfl | hx
    · exact (n3 p hp).1
    · exact (n3 p hp).2.1 x hx
  · have := nd_mid (U := [b]) (Fi := obl vk) (V := obl vc ++ (K.map (·.2.2)).flatten) (X := obl v') (N := w.heap.size) (by have := h.nodup; unfold fpt at this; simpa [List.append_assoc] using this) (obl_nodup v') k4 (fun y hy => hlt y (by
      unfold fpt
      simp only [List.mem_cons, List.mem_append, List.not_mem_nil, or_false] at hy ⊢
      rcases hy with hy | hy | hy
      · exact .inl hy
      · exact .inr (.inl (.inr hy))
      · exact .inr (.inr hy)))
    unfold fpt
    simpa [List.append_assoc] using this
/-- The row of kids is another one. -/
theorem NdP.setC (h : NdP d w b vk vc kk bs K) (hf : Fr (obl vc) w w2) (hn : OwnR pbE w2 0 58 v' bs') (hv : Moves w vc v') :
    NdP d (w2.setCell ⟨b, 1, none⟩ v') b vk v' kk bs' K ∧ Fr (b :: obl vc) w (w2.setCell ⟨b, 1, none⟩ v') ∧ (∀ y ∈ fpt b vk v' K, y ∈ fpt b vk vc K ∨ w.heap.size ≤ y) := by
  obtain ⟨n1, n2, n3, n4⟩ := nodup_parts h.nodup
  have h2 := hf.get h.file n2
  have hb' : v'.ownBlock ≠ some b := own_ne_block hn h2 (by decide)
  have hs : Fr [b] w2 (w2.setCell ⟨b, 1, none⟩ v') := (Fr.refl _ _).setCell (.inl (by simp)) _
  have k3 : Fr (b :: obl vc) w (w2.setCell ⟨b, 1, none⟩ v') := (hf.mono (fun x hx => .inl (List.mem_cons_of_mem _ hx))).step hs (fun x hx => .inl (by simp only [List.mem_singleton] at hx; simp [hx]))
  have k4 : ∀ y ∈ obl v', y ∈ obl vc ∨ w.heap.size ≤ y := fun y hy => by
    rcases hv with e | ⟨g, e1, e2⟩
    · exact .inl (mem_obl.2 (by rw [← e]; exact mem_obl.1 hy))
    · have := mem_obl.1 hy
      rw [e1] at this
      injection this with this
      exact .inr (by omega)
  have hbnd : ∀ y ∈ fpt b vk v' K, y ∈ fpt b vk vc K ∨ w.heap.size ≤ y := fun y hy => by
    unfold fpt at hy ⊢
    simp only [List.mem_cons, List.mem_append] at hy ⊢
    rcases hy with hy | (hy | hy) | hy
    · exact .inl (.inl hy)
    · exact .inl (.inr (.inl (.inl hy)))
    · exact (k4 y hy).imp (fun h => .inr (.inl (.inr h))) id
    · exact .inl (.inr (.inr hy))
  have hlt := h.lt
  refine ⟨⟨set_block h2 _, h.keys.kept k3 (fun x hx e => ?_), hn.kept hs (by simpa using hb'), fun p hp => (h.each p hp).fr k3 (fun x hx => ?_), ?_⟩, k3, hbnd⟩
  · rcases List.mem_cons.1 hx with rfl | hx
    · exact n1 (mem_obl.2 e)
    · exact n4 x (mem_obl.2 e) hx
  · rcases List.mem_cons.1 hx with rfl | hx
    · exact (n3 p hp).1
    · exact (n3 p hp).2.2 x hx
  · have := nd_mid (U := b :: obl vk) (Fi := obl vc) (V := (K.map (·.2.2)).flatten) (X := obl v') (N := w.heap.size) (by have := h.nodup; unfold fpt at this; simpa [List.append_assoc] using this) (obl_nodup v') k4 (fun y hy => hlt y (by
      unfold fpt
      simp only [List.mem_cons, List.mem_append] at hy ⊢
      rcases hy with (hy | hy) | hy
      · exact .inl hy
      · exact .inr (.inl (.inl hy))
      · exact .inr (.inr hy)))
    unfold fpt
    simpa [List.append_assoc] using this
/-- A kid has turned (and was split, maybe). -/
theorem NdP.kid (h : NdP d w b vk vc kk bs K) {i : Nat} (hi : i < K.length) {X : List Nat} (hX : X.Nodup) (hx : ∀ y ∈ X, y ∈ K[i].2.2 ∨ w.heap.size ≤ y) (hf : FrP (· ∈ K[i].2.2) w w2)
    (hK : ∀ p ∈ K', p ∈ K.eraseIdx i ∨ Nd d w2 p.1 p.2.1 p.2.2) (hfl : (K'.map (·.2.2)).flatten = ((K.map (·.2.2)).set i X).flatten) :
    NdP d w2 b vk vc kk bs K' ∧ (∀ y ∈ fpt b vk vc K', y ∈ fpt b vk vc K ∨ w.heap.size ≤ y) ∧ FrP (· ∈ fpt b vk vc K) w w2 := by
  obtain ⟨n1, n2, n3, n4⟩ := nodup_parts h.nodup
  have hm := List.getElem_mem hi
  obtain ⟨m1, m2, m3⟩ := n3 _ hm
  have hi' : i < (K.map (·.2.2)).length := by simpa using hi
  have hgi : (K.map (·.2.2))[i]'hi' = K[i].2.2 := by simp
  have hnd := h.nodup
  have hlt := h.lt
  have e1 : fpt b vk vc K = (b :: (obl vk ++ obl vc ++ ((K.map (·.2.2)).take i).flatten)) ++ K[i].2.2 ++ ((K.map (·.2.2)).drop (i + 1)).flatten := by
    unfold fpt
    rw [flat_split hi', hgi]
    simp [List.append_assoc]
  have e2 : fpt b vk vc K' = (b :: (obl vk ++ obl vc ++ ((K.map (·.2.2)).take i).flatten)) ++ X ++ ((K.map (·.2.2)).drop (i + 1)).flatten := by
    unfold fpt
    rw [hfl, flat_set hi']
    simp [List.append_assoc]
  rw [e1] at hnd
  refine ⟨⟨(hf.block b (lt_of_heap h.file) m1).trans h.file, h.keys.frP' hf (fun g hg => m2 g (mem_obl.2 hg)), h.kids.frP' hf (fun g hg => m3 g (mem_obl.2 hg)), fun p hp => ?_, ?_⟩, fun y hy => ?_, ⟨hf.os, hf.tape, hf.output, hf.size, fun k hk hn => hf.block k hk (fun hq => hn (h.sub hm k hq))⟩⟩
  · rcases hK p hp with hp | hp
    · refine (h.each p (List.mem_of_mem_eraseIdx hp)).frP hf (fun x hx' hq => ?_)
      rw [List.nodup_append, List.nodup_append] at hnd
      obtain ⟨⟨_, _, q1⟩, _, q2⟩ := hnd
      obtain ⟨j, hj2, hj1, hjp⟩ := List.mem_eraseIdx_iff_getElem.1 hp
      have hin : p.2.2 ∈ (K.map (·.2.2)).take i ∨ p.2.2 ∈ (K.map (·.2.2)).drop (i + 1) := by
        by_cases hlt : j < i
        · left
          rw [← hjp]
          have : (K.map (·.2.2))[j]'(by simpa using hj2) = K[j].2.2 := by simp
          rw [← this]
          exact List.mem_take_iff_getElem.2 ⟨j, by simp; omega, rfl⟩
        · right
          rw [← hjp]
          have : (K.map (·.2.2))[j]'(by simpa using hj2) = K[j].2.2 := by simp
          rw [← this]
          exact List.mem_drop_iff_getElem.2 ⟨j - (i + 1), by simp; omega, by congr 1; omega⟩
      rcases hin with hin | hin
      · exact q1 x (by simp only [List.mem_cons, List.mem_append, List.mem_flatten]; exact .inr (.inr ⟨_, hin, hx'⟩)) x hq rfl
      · exact q2 x (List.mem_append.2 (.inr hq)) x (List.mem_flatten.2 ⟨_, hin, hx'⟩) rfl
    · exact hp
  · rw [e2]
    refine nd_mid hnd hX hx (fun y hy => hlt y ?_)
    rw [e1]
    rcases List.mem_append.1 hy with hy | hy
    · exact List.mem_append.2 (.inl (List.mem_append.2 (.inl hy)))
    · exact List.mem_append.2 (.inr hy)
  · rw [e2] at hy
    rw [e1]
    simp only [List.mem_append] at hy ⊢
    rcases hy with (hy | hy) | hy
    · exact .inl (.inl (.inl hy))
    · exact (hx y hy).imp (fun h => .inl (.inr h)) id
    · exact .inl (.inr hy)
end
end Go.Proofs.Ytokbhiokcoldbaa
/- An inner node that is split. -/
namespace Go.Proofs.Ytokbhiokcoldbaa
open Go.RowKit

theorem own_mono {α : Type} {E : Enc α} {w : World} {B C e : Nat} {v : Value} {l : List α} (h : OwnR E w B e v l) (hC : C ≤ B) : OwnR E w C e v l := by
  obtain ⟨h1, h2⟩ := h
  refine ⟨h1, ?_⟩
  rcases h2 with h2 | ⟨g, cap, cur, e0, hb, r⟩
  · exact .inl h2
  · exact .inr ⟨g, cap, cur, e0, Nat.le_trans hC hb, r⟩
theorem NdP.cut {d : Nat} {w w1 w4 : World} {b g c gc cc : Nat} {cl cl2 : Value} {kk : List Int} {bs : List Nat} {K : List (Kd d)} (h : NdP d w b (.slice (some ⟨g, 0, none⟩) 5 c) (.slice (some ⟨gc, 0, none⟩) 6 cc) kk bs K) (h5 : kk.length = 5) (h6 : bs.length = 6)
    (hf1 : Fr [] w w1) (ho1 : OwnR inE w1 w.heap.size 3 cl (kk.drop 3)) (w3 : World) (hw3 : w3 = (w1.alloc (.cells #[cl, .slice none 0 0] 63)).setCell ⟨b, 0, none⟩ (.slice (some ⟨g, 0, none⟩) 2 c))
    (hf4 : Fr [] w3 w4) (ho4 : OwnR pbE w4 w3.heap.size 58 cl2 (bs.drop 3)) (w6 : World) (hw6 : w6 = (w4.setCell ⟨w1.heap.size, 1, none⟩ cl2).setCell ⟨b, 1, none⟩ (.slice (some ⟨gc, 0, none⟩) 3 cc)) :
    NdP d w6 b (.slice (some ⟨g, 0, none⟩) 2 c) (.slice (some ⟨gc, 0, none⟩) 3 cc) (kk.take 2) (bs.take 3) (K.take 3) ∧ NdP d w6 w1.heap.size cl cl2 (kk.drop 3) (bs.drop 3) (K.drop 3) ∧
    (fpt b (.slice (some ⟨g, 0, none⟩) 2 c) (.slice (some ⟨gc, 0, none⟩) 3 cc) (K.take 3) ++ fpt w1.heap.size cl cl2 (K.drop 3)).Nodup ∧
    (∀ y ∈ fpt b (.slice (some ⟨g, 0, none⟩) 2 c) (.slice (some ⟨gc, 0, none⟩) 3 cc) (K.take 3) ++ fpt w1.heap.size cl cl2 (K.drop 3), y ∈ fpt b (.slice (some ⟨g, 0, none⟩) 5 c) (.slice (some ⟨gc, 0, none⟩) 6 cc) K ∨ w.heap.size ≤ y) ∧ Fr [b] w w6 := by
  have hbw := lt_of_heap h.file
  have hlt := h.lt
  obtain ⟨n1, n2, n3, n4⟩ := nodup_parts h.nodup
  have hbg : b ≠ g := fun e => n1 (mem_obl.2 (by rw [e]; rfl))
  have hbc : b ≠ gc := fun e => n2 (mem_obl.2 (by rw [e]; rfl))
  have z1 := hf1.size
  have hfa : Fr [] w1 (w1.alloc (.cells #[cl, .slice none 0 0] 63)) := (Fr.refl _ _).alloc _
  have hsa : (w1.alloc (.cells #[cl, .slice none 0 0] 63)).heap.size = w1.heap.size + 1 := by simp
  have hs3 : Fr [b] (w1.alloc (.cells #[cl, .slice none 0 0] 63)) w3 := by rw [hw3]; exact (Fr.refl _ _).setCell (.inl (by simp)) _
  have z3 : w3.heap.size = w1.heap.size + 1 := by rw [hw3]; simp [World.setCell]
  have z4 := hf4.size
  have hf2 := hf1.trans hfa
  have hF3 : Fr [b] w w3 := hf2.nil.step hs3 (fun x hx => .inl hx)
  have hF4 : Fr [b] w w4 := hF3.step hf4 (by simp)
  have hs6 : Fr [b, w1.heap.size] w4 w6 := by rw [hw6]; exact ((Fr.refl _ _).setCell (.inl (by simp)) _).setCell (.inl (by simp)) _
  have hF6 : Fr [b] w w6 := hF4.step hs6 (fun x hx => by
    simp only [List.mem_cons, List.not_mem_nil, or_false] at hx
    rcases hx with rfl | rfl
    · exact .inl (by simp)
    · exact .inr (by omega))
  have hb3 : w3.heap[b]? = some (.cells #[.slice (some ⟨g, 0, none⟩) 2 c, .slice (some ⟨gc, 0, none⟩) 6 cc] 63 (0, 0)) := by rw [hw3]; exact set_block (hf2.get h.file (by simp)) _
  have hb4 := hf4.get hb3 (by simp)
  have hx4 : w4.heap[w1.heap.size]? = some (.cells #[cl, .slice none 0 0] 63 (0, 0)) := hf4.get (hs3.get (heap_alloc_new w1 _) (by simp; omega)) (by simp)
  have hne : b ≠ w1.heap.size := by omega
  have c1 : ∀ y ∈ obl cl, w.heap.size ≤ y ∧ y < w1.heap.size := fun y hy => ho1.ge y (mem_obl.1 hy)
  have c2 : ∀ y ∈ obl cl2, w1.heap.size < y := fun y hy => by have := (ho4.ge y (mem_obl.1 hy)).1; omega
  have k6 : OwnR inE w6 0 3 (.slice (some ⟨g, 0, none⟩) 5 c) kk := h.keys.kept hF6 (fun x hx e => by simp only [List.mem_singleton] at hx; subst hx; exact n1 (mem_obl.2 e))
  have p6 : OwnR pbE w6 0 58 (.slice (some ⟨gc, 0, none⟩) 6 cc) bs := h.kids.kept hF6 (fun x hx e => by simp only [List.mem_singleton] at hx; subst hx; exact n2 (mem_obl.2 e))
  have e6 : ∀ p ∈ K, Nd d w6 p.1 p.2.1 p.2.2 := fun p hp => (h.each p hp).fr hF6 (fun x hx => by simp only [List.mem_singleton] at hx; subst hx; exact (n3 p hp).1)
  have l6 : OwnR inE w6 0 3 cl (kk.drop 3) := by
    have q1 := ((ho1.kept hfa (by simp)).kept hs3 (fun x hx e => by simp only [List.mem_singleton] at hx; have := c1 x (mem_obl.2 e); omega)).kept hf4 (by simp)
    refine (q1.kept hs6 (fun x hx e => ?_)).base'
    have := c1 x (mem_obl.2 e)
    simp only [List.mem_cons, List.not_mem_nil, or_false] at hx
    rcases hx with rfl | rfl <;> omega
  have m6 : OwnR pbE w6 0 58 cl2 (bs.drop 3) := (ho4.kept hs6 (fun x hx e => by
    have := c2 x (mem_obl.2 e)
    simp only [List.mem_cons, List.not_mem_nil, or_false] at hx
    rcases hx with rfl | rfl <;> omega)).base'
  have f6 : w6.heap[b]? = some (.cells #[.slice (some ⟨g, 0, none⟩) 2 c, .slice (some ⟨gc, 0, none⟩) 3 cc] 63 (0, 0)) := by
    rw [hw6]
    exact set_block (((Fr.refl [w1.heap.size] w4).setCell (.inl (by simp)) _).get hb4 (by simpa using hne)) _
  have g6 : w6.heap[w1.heap.size]? = some (.cells #[cl, cl2] 63 (0, 0)) := by
    rw [hw6]
    exact ((Fr.refl [b] (w4.setCell ⟨w1.heap.size, 1, none⟩ cl2)).setCell (.inl (by simp)) _).get (set_block hx4 _) (by simpa using Ne.symm hne)
  have hfl : (K.map (·.2.2)).flatten = ((K.take 3).map (·.2.2)).flatten ++ ((K.drop 3).map (·.2.2)).flatten := by
    rw [← List.flatten_append, ← List.map_append, List.take_append_drop]
  have hold : ∀ y, y ∈ (b :: ([g] ++ [gc] ++ ((K.take 3).map (·.2.2)).flatten)) ++ ((K.drop 3).map (·.2.2)).flatten → y ∈ fpt b (.slice (some ⟨g, 0, none⟩) 5 c) (.slice (some ⟨gc, 0, none⟩) 6 cc) K := fun y hy => by
    show y ∈ b :: ([g] ++ [gc] ++ (K.map (·.2.2)).flatten)
    rw [hfl]
    simpa [List.append_assoc] using hy
  have hnew : ∀ y, y ∈ w1.heap.size :: (obl cl ++ obl cl2) → w.heap.size ≤ y := fun y hy => by
    simp only [List.mem_cons, List.mem_append] at hy
    rcases hy with rfl | hy | hy
    · omega
    · exact (c1 y hy).1
    · have := c2 y hy; omega
  have hperm : (fpt b (.slice (some ⟨g, 0, none⟩) 2 c) (.slice (some ⟨gc, 0, none⟩) 3 cc) (K.take 3) ++ fpt w1.heap.size cl cl2 (K.drop 3)).Perm (((b :: ([g] ++ [gc] ++ ((K.take 3).map (·.2.2)).flatten)) ++ ((K.drop 3).map (·.2.2)).flatten) ++ (w1.heap.size :: (obl cl ++ obl cl2))) := by
    have e1 : fpt b (.slice (some ⟨g, 0, none⟩) 2 c) (.slice (some ⟨gc, 0, none⟩) 3 cc) (K.take 3) = b :: ([g] ++ [gc] ++ ((K.take 3).map (·.2.2)).flatten) := rfl
    have e2 : fpt w1.heap.size cl cl2 (K.drop 3) = (w1.heap.size :: (obl cl ++ obl cl2)) ++ ((K.drop 3).map (·.2.2)).flatten := by unfold fpt; simp
    have aux : ∀ (A N D : List Nat), (A ++ (N ++ D)).Perm ((A ++ D) ++ N) := fun A N D => by rw [List.append_assoc]; exact List.Perm.append_left _ List.perm_append_comm
    rw [e1, e2]
    exact aux _ _ _
  have hnd : (fpt b (.slice (some ⟨g, 0, none⟩) 2 c) (.slice (some ⟨gc, 0, none⟩) 3 cc) (K.take 3) ++ fpt w1.heap.size cl cl2 (K.drop 3)).Nodup := by
    rw [hperm.nodup_iff, List.nodup_append]
    refine ⟨?_, ?_, fun y hy z hz => ?_⟩
    · have := h.nodup
      have e : fpt b (.slice (some ⟨g, 0, none⟩) 5 c) (.slice (some ⟨gc, 0, none⟩) 6 cc) K = (b :: ([g] ++ [gc] ++ ((K.take 3).map (·.2.2)).flatten)) ++ ((K.drop 3).map (·.2.2)).flatten := by
        show b :: ([g] ++ [gc] ++ (K.map (·.2.2)).flatten) = _
        rw [hfl]
        simp [List.append_assoc]
      rw [e] at this
      exact this
    · rw [List.nodup_cons, List.nodup_append]
      refine ⟨fun hm => ?_, obl_nodup cl, obl_nodup cl2, fun y hy z hz => ?_⟩
      · rcases List.mem_append.1 hm with hm | hm
        · have := (c1 _ hm).2; omega
        · have := c2 _ hm; omega
      · have := (c1 y hy).2
        have := c2 z hz
        omega
    · have := hlt y (hold y hy)
      have := hnew z hz
      omega
  have hnds := List.nodup_append.1 hnd
  refine ⟨⟨f6, k6.take 2 (by omega), p6.take 3 (by omega), fun p hp => e6 p (List.mem_of_mem_take hp), hnds.1⟩, ⟨g6, l6, m6, fun p hp => e6 p (List.mem_of_mem_drop hp), hnds.2.1⟩, hnd, fun y hy => ?_, hF6⟩
  rcases List.mem_append.1 (hperm.mem_iff.1 hy) with hy | hy
  · exact .inl (hold y hy)
  · exact .inr (hnew y hy)
end Go.Proofs.Ytokbhiokcoldbaa

/- add of package btree. -/
namespace Go.Proofs.Ytokbhiokcoldbaa
open Go.RowKit

theorem mem_set_erase {α : Type} {l : List α} {i : Nat} {q p : α} (h : p ∈ l.set i q) : p = q ∨ p ∈ l.eraseIdx i := by
  obtain ⟨j, hj, rfl⟩ := List.getElem_of_mem h
  rw [List.length_set] at hj
  by_cases hij : i = j
  · subst hij; left; rw [List.getElem_set_self]
  · right
    rw [List.getElem_set_ne hij]
    exact List.mem_eraseIdx_iff_getElem.2 ⟨j, hj, fun e => hij e.symm, rfl⟩
section
variable {d : Nat} {w : World} {b : Nat} {vk vc : Value} {K : List (Kd d)} {t : Bt.T (d + 1)} {lo : Nat}
/-- An inner node and the kid that add goes to. -/
structure BtN (d : Nat) (w : World) (b : Nat) (vk vc : Value) (K : List (Kd d)) (t : Bt.T (d + 1)) (x : Int) (i bi : Nat) (s : Bt.T d) (Fi : List Nat) : Prop where
  p : NdP d w b vk vc t.1 (K.map (·.1)) K
  t2 : t.2 = K.map (·.2.1)
  hi : i < K.length
  at_ : K[i] = (bi, s, Fi)
  ix : i = Bt.lb x t.1
  len : K.length = t.1.length + 1
  up : Bt.Up t.1
  four : t.1.length ≤ 4
  ok : Bt.Ok d 2 s
  ups : Bt.Up (Bt.all d s)
  kid : t.2[i]? = some s
theorem btN_of (hok : Bt.Ok (d + 1) lo t) {F : List Nat} (h : Nd (d + 1) w b t F) (hnd : F.Nodup) (hu : Bt.Up (Bt.all (d + 1) t)) (x : Int) : ∃ vk vc K i bi s Fi, BtN d w b vk vc K t x i bi s Fi ∧ F = fpt b vk vc K := by
  obtain ⟨vk, vc, K, h1, h2, h3, h4, h5, rfl⟩ := h
  obtain ⟨s, hs, hm, hi⟩ := Bt.kid_at hok x
  have hlen : K.length = t.1.length + 1 := by rw [← hok.2.1, h4, List.length_map]
  have hiK : Bt.lb x t.1 < K.length := by rw [hlen]; have := Bt.lb_le x t.1; omega
  have hml := Bt.map_len hok
  have hsK : (K[Bt.lb x t.1]).2.1 = s := by
    rw [h4, List.getElem?_map, List.getElem?_eq_getElem hiK] at hs
    simpa using hs
  refine ⟨vk, vc, K, Bt.lb x t.1, (K[Bt.lb x t.1]).1, s, (K[Bt.lb x t.1]).2.2, ⟨⟨h1, h2, h3, h5, hnd⟩, h4, hiK, by rw [← hsK], rfl, hlen, Bt.up_keys t.1 _ hml hu, hok.1.2, hok.2.2 s hm, Bt.up_kid t.1 _ hml hu _ (List.mem_map.2 ⟨s, hm, rfl⟩), hs⟩, rfl⟩
variable {x : Int} {i bi : Nat} {s s' r : Bt.T d} {Fi : List Nat}
theorem BtN.nd (h : BtN d w b vk vc K t x i bi s Fi) : Nd d w bi s Fi := by
  have := h.p.each _ (List.getElem_mem h.hi)
  rw [h.at_] at this
  exact this
theorem BtN.ndk (h : BtN d w b vk vc K t x i bi s Fi) : Fi.Nodup := by
  have h1 := h.p.nodup
  unfold fpt at h1
  rw [List.nodup_cons, List.nodup_append] at h1
  have h2 := h1.2.2.1
  have hm : Fi ∈ K.map (·.2.2) := List.mem_map.2 ⟨_, List.getElem_mem h.hi, by rw [h.at_]⟩
  have hs : Fi.Sublist (K.map (·.2.2)).flatten := List.sublist_flatten_of_mem hm
  exact h2.sublist hs
theorem BtN.bs (h : BtN d w b vk vc K t x i bi s Fi) : (K.map (·.1)).set i bi = K.map (·.1) := by
  have hi := h.hi
  have e : bi = (K.map (·.1))[i]'(by simpa using hi) := by rw [List.getElem_map, h.at_]
  rw [e]
  exact List.set_getElem_self _
/-- The kid has turned, without a split. -/
theorem BtN.one (h : BtN d w b vk vc K t x i bi s Fi) (hadd : Bt.add d s x = (s', none)) {w1 w2 : World} (hf : Fr [] w w1) {e : Ending} (ha : BtA d w1 bi Fi (Bt.add d s x) e w2) :
    e = .returned (.tuple #[.int .i64 0, .pointer none]) ∧ w2.heap[b]? = some (.cells #[vk, vc] 63 (0, 0)) ∧ BtA (d + 1) w b (fpt b vk vc K) (Bt.add (d + 1) t x) (.returned (.tuple #[.int .i64 0, .pointer none])) w2 := by
  rw [hadd] at ha
  obtain ⟨F', F2, a1, a2, a3, a4, a5, a6⟩ := ha
  subst a5
  rw [List.append_nil] at a2 a3
  have hp1 := h.p.keep hf
  have hi := h.hi
  have hat : K[i].2.2 = Fi := by rw [h.at_]
  obtain ⟨q1, q2, q3⟩ := hp1.kid (K' := K.set i (bi, s', F')) h.hi a2 (fun y hy => by rw [hat]; exact a3 y hy) (by rw [hat]; exact a4) (fun p hp => by
    rcases mem_set_erase hp with rfl | hp
    · exact .inr a1
    · exact .inl hp) (by rw [List.map_set])
  have hz := hf.size
  refine ⟨a6, q1.file, ?_⟩
  rw [Bt.add, ← h.ix, h.kid]
  simp only [hadd]
  have e1 : t.2.set i s' = (K.set i (bi, s', F')).map (·.2.1) := by rw [List.map_set, h.t2]
  have hd := q1.done (by rw [List.map_set]; exact h.bs.symm)
  refine ⟨_, [], by rw [e1]; exact hd, by rw [List.append_nil]; exact q1.nodup, fun y hy => ?_, ⟨q3.os.trans hf.os, q3.tape.trans hf.tape, q3.output.trans hf.output, Nat.le_trans hz q3.size, fun k hk hn => (q3.block k (Nat.lt_of_lt_of_le hk hz) hn).trans (hf.block k hk (by simp))⟩, rfl, rfl⟩
  rw [List.append_nil] at hy
  exact (q2 y hy).imp id (fun h => Nat.le_trans hz h)
/-- The kid has turned and was split. -/
theorem BtN.two (h : BtN d w b vk vc K t x i bi s Fi) {u : Int} (hadd : Bt.add d s x = (s', some (u, r))) {w1 w2 : World} (hf : Fr [] w w1) {e : Ending} (ha : BtA d w1 bi Fi (Bt.add d s x) e w2) :
    ∃ b2, ∃ K2 : List (Kd d), e = .returned (.tuple #[.int .i64 u, .pointer (some ⟨b2, 0, none⟩)]) ∧ NdP d w2 b vk vc t.1 (K.map (·.1)) K2 ∧ (∀ y ∈ fpt b vk vc K2, y ∈ fpt b vk vc K ∨ w.heap.size ≤ y) ∧ FrP (· ∈ fpt b vk vc K) w w2 ∧
      K2.map (·.1) = Bt.ins (K.map (·.1)) (i + 1) b2 ∧ K2.map (·.2.1) = Bt.ins (t.2.set i s') (i + 1) r := by
  rw [hadd] at ha
  obtain ⟨F', F2, a1, a2, a3, a4, b2, a5, a6⟩ := ha
  have hp1 := h.p.keep hf
  have hi := h.hi
  have hat : K[i].2.2 = Fi := by rw [h.at_]
  have hz := hf.size
  obtain ⟨q1, q2, q3⟩ := hp1.kid (K' := Bt.ins (K.set i (bi, s', F')) (i + 1) (b2, r, F2)) hi a2 (fun y hy => by rw [hat]; exact a3 y hy) (by rw [hat]; exact a4) (fun p hp => by
    rcases Bt.mem_ins hp with rfl | hp
    · exact .inr a6
    · rcases mem_set_erase hp with rfl | hp
      · exact .inr a1
      · exact .inl hp) (by rw [Bt.map_ins, List.map_set]; exact flat_ins (by simpa using hi) _ _)
  refine ⟨b2, _, a5, q1, fun y hy => (q2 y hy).imp id (fun h => Nat.le_trans hz h), ⟨q3.os.trans hf.os, q3.tape.trans hf.tape, q3.output.trans hf.output, Nat.le_trans hz q3.size, fun k hk hn => (q3.block k (Nat.lt_of_lt_of_le hk hz) hn).trans (hf.block k hk (by simp))⟩, ?_, ?_⟩
  · rw [Bt.map_ins, List.map_set]
    simp only
    rw [h.bs]
  · rw [Bt.map_ins, List.map_set, h.t2]
theorem BtN.add_two (h : BtN d w b vk vc K t x i bi s Fi) {u : Int} (hadd : Bt.add d s x = (s', some (u, r))) : Bt.add (d + 1) t x = Bt.cutN (Bt.ins t.1 i u) (Bt.ins (t.2.set i s') (i + 1) r) := by
  rw [Bt.add, ← h.ix, h.kid]
  simp only [hadd]
  rfl
/-- It has room. -/
theorem bt_end2 {w6 : World} {vk' vc' : Value} {K2 : List (Kd d)} {kk : List Int} {ts : List (Bt.T d)} {F : List Nat} (hp : NdP d w6 b vk' vc' kk (K2.map (·.1)) K2) (ht : K2.map (·.2.1) = ts) (h4 : kk.length ≤ 4)
    (hb : ∀ y ∈ fpt b vk' vc' K2, y ∈ F ∨ w.heap.size ≤ y) (hf : FrP (· ∈ F) w w6) : BtA (d + 1) w b F (Bt.cutN kk ts) (.returned (.tuple #[.int .i64 0, .pointer none])) w6 := by
  unfold Bt.cutN
  rw [if_pos h4]
  refine ⟨_, [], by rw [← ht]; exact hp.done rfl, by rw [List.append_nil]; exact hp.nodup, fun y hy => ?_, hf, rfl, rfl⟩
  rw [List.append_nil] at hy
  exact hb y hy
/-- It is split. -/
theorem bt_end3 {w6 w1 w4 : World} {g c gc cc : Nat} {cl cl2 : Value} {K2 : List (Kd d)} {kk : List Int} {ts : List (Bt.T d)} {F : List Nat} (hp : NdP d w6 b (.slice (some ⟨g, 0, none⟩) 5 c) (.slice (some ⟨gc, 0, none⟩) 6 cc) kk (K2.map (·.1)) K2) (ht : K2.map (·.2.1) = ts) (h5 : kk.length = 5) (h6 : (K2.map (·.1)).length = 6)
    (hb : ∀ y ∈ fpt b (.slice (some ⟨g, 0, none⟩) 5 c) (.slice (some ⟨gc, 0, none⟩) 6 cc) K2, y ∈ F ∨ w.heap.size ≤ y) (hf : FrP (· ∈ F) w w6) (hbF : b ∈ F)
    (hf1 : Fr [] w6 w1) (ho1 : OwnR inE w1 w6.heap.size 3 cl (kk.drop 3)) (w3 : World) (hw3 : w3 = (w1.alloc (.cells #[cl, .slice none 0 0] 63)).setCell ⟨b, 0, none⟩ (.slice (some ⟨g, 0, none⟩) 2 c))
    (hf4 : Fr [] w3 w4) (ho4 : OwnR pbE w4 w3.heap.size 58 cl2 ((K2.map (·.1)).drop 3)) (w9 : World) (hw9 : w9 = (w4.setCell ⟨w1.heap.size, 1, none⟩ cl2).setCell ⟨b, 1, none⟩ (.slice (some ⟨gc, 0, none⟩) 3 cc)) :
    BtA (d + 1) w b F (Bt.cutN kk ts) (.returned (.tuple #[.int .i64 (kk.getD 2 0), .pointer (some ⟨w1.heap.size, 0, none⟩)])) w9 := by
  obtain ⟨c1, c2, c3, c4, c5⟩ := hp.cut h5 h6 hf1 ho1 w3 hw3 hf4 ho4 w9 hw9
  unfold Bt.cutN
  rw [if_neg (by omega)]
  have hz := hf.size
  refine ⟨_, _, by rw [← ht, ← List.map_take]; exact c1.done (by rw [List.map_take]), c3, fun y hy => ?_, hf.step c5 (fun x hx => .inl (by simp only [List.mem_singleton] at hx; subst hx; exact hbF)), _, rfl, by rw [← ht, ← List.map_drop]; exact c2.done (by rw [List.map_drop])⟩
  rcases c4 y hy with h | h
  · exact hb y h
  · exact .inr (Nat.le_trans hz h)
end
end Go.Proofs.Ytokbhiokcoldbaa
