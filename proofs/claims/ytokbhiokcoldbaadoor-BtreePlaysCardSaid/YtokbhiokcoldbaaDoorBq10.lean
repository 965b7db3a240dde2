/- What the steps of add do to an inner node's memory. -/

import Derived.Test.YtokbhiokcoldbaaDoorBq09
namespace Go.Proofs.YtokbhiokcoldbaaDoor
open Go.RowKit

theorem nd_mid {U Fi V X : List Nat} {N : Nat} (h : (U ++ Fi ++ V).Nodup) (hX : X.Nodup) (hx : ∀ y ∈ X, y ∈ Fi ∨ N ≤ y) (hN : ∀ y ∈ U ++ V, y < N) : (U ++ X ++ V).Nodup := by
  rw [List.append_assoc, List.nodup_append, List.nodup_append] at h ⊢
  obtain ⟨h1, ⟨h2, h3, h4⟩, h5⟩ := h
  refine ⟨h1, ⟨hX, h3, fun y hy z hz => ?_⟩, fun y hy z hz => ?_⟩
  · rcases hx y hy with hf | hf
    · exact h4 y hf z hz
    · have := hN z (List.mem_append.2 (.inr hz)); omega
  · rcases List.mem_append.1 hz with hz | hz
    · rcases hx z hz with hf | hf
      · exact h5 y hy z (List.mem_append.2 (.inl hf))
      · have := hN y (List.mem_append.2 (.inl hy)); omega
    · exact h5 y hy z (List.mem_append.2 (.inr hz))
theorem flat_split {L : List (List Nat)} {i : Nat} (h : i < L.length) : L.flatten = (L.take i).flatten ++ L[i] ++ (L.drop (i + 1)).flatten := by
  conv => lhs; rw [← List.take_append_drop i L, List.drop_eq_getElem_cons h]
  rw [List.flatten_append, List.flatten_cons, List.append_assoc]
theorem flat_set {L : List (List Nat)} {i : Nat} (h : i < L.length) (X : List Nat) : (L.set i X).flatten = (L.take i).flatten ++ X ++ (L.drop (i + 1)).flatten := by
  rw [List.set_eq_take_append_cons_drop, if_pos h]
  simp
theorem flat_ins {L : List (List Nat)} {i : Nat} (h : i < L.length) (X Y : List Nat) : (Bt.ins (L.set i X) (i + 1) Y).flatten = (L.set i (X ++ Y)).flatten := by
  rw [flat_set h]
  unfold Bt.ins
  rw [List.take_set, List.drop_set_of_lt (by omega), List.flatten_append, List.flatten_cons]
  have e : ((L.take (i + 1)).set i X).flatten = (L.take i).flatten ++ X := by
    rw [flat_set (by rw [List.length_take]; omega)]
    rw [List.take_take, Nat.min_eq_left (by omega), List.drop_of_length_le (by rw [List.length_take]; omega)]
    simp
  rw [e]
  simp
def fpt {d : Nat} (b : Nat) (vk vc : Value) (K : List (Kd d)) : List Nat := b :: (obl vk ++ obl vc ++ (K.map (·.2.2)).flatten)
/-- An inner node, in pieces. -/
structure NdP (d : Nat) (w : World) (b : Nat) (vk vc : Value) (kk : List Int) (bs : List Nat) (K : List (Kd d)) : Prop where
  file : w.heap[b]? = some (.cells #[vk, vc] 102 (0, 0))
  keys : OwnR inE w 0 3 vk kk
  kids : OwnR pbE w 0 99 vc bs
  each : ∀ p ∈ K, Nd d w p.1 p.2.1 p.2.2
  nodup : (fpt b vk vc K).Nodup
section
variable {d : Nat} {w w2 : World} {b : Nat} {vk vc v' : Value} {kk kk' : List Int} {bs bs' : List Nat} {K K' : List (Kd d)}
theorem NdP.lt (h : NdP d w b vk vc kk bs K) : ∀ x ∈ fpt b vk vc K, x < w.heap.size := fun x hx => by
  rcases List.mem_cons.1 hx with rfl | hx
  · exact lt_of_heap h.file
  · simp only [List.mem_append, List.mem_flatten, List.mem_map] at hx
    rcases hx with (hx | hx) | ⟨_, ⟨p, hp, rfl⟩, hx⟩
    · exact (h.keys.ge x (mem_obl.1 hx)).2
    · exact (h.kids.ge x (mem_obl.1 hx)).2
    · exact (h.each p hp).lt x hx
theorem NdP.sub (h : NdP d w b vk vc kk bs K) {p : Kd d} (hp : p ∈ K) : ∀ x ∈ p.2.2, x ∈ fpt b vk vc K := fun x hx => by
  unfold fpt
  simp only [List.mem_cons, List.mem_append, List.mem_flatten, List.mem_map]
  exact .inr (.inr ⟨_, ⟨p, hp, rfl⟩, hx⟩)
theorem NdP.frP {P : Nat → Prop} (h : NdP d w b vk vc kk bs K) (hf : FrP P w w2) (hn : ∀ x ∈ fpt b vk vc K, ¬ P x) : NdP d w2 b vk vc kk bs K :=
  ⟨(hf.block b (lt_of_heap h.file) (hn b (by simp [fpt]))).trans h.file, h.keys.frP' hf (fun g hg => hn g (by simp [fpt, mem_obl.2 hg])), h.kids.frP' hf (fun g hg => hn g (by simp [fpt, mem_obl.2 hg])), fun p hp => (h.each p hp).frP hf (fun x hx => hn x (h.sub hp x hx)), h.nodup⟩
theorem NdP.keep (h : NdP d w b vk vc kk bs K) (hf : Fr [] w w2) : NdP d w2 b vk vc kk bs K := h.frP (P := fun _ => False) ((FrP.refl _ w).step hf (by simp)) (fun _ _ h => h)
theorem NdP.done (h : NdP d w b vk vc kk bs K) (hb : bs = K.map (·.1)) : Nd (d + 1) w b (kk, K.map (·.2.1)) (fpt b vk vc K) := ⟨vk, vc, K, h.file, h.keys, by rw [← hb]; exact h.kids, rfl, h.each, rfl⟩
theorem nodup_parts (h : (fpt b vk vc K).Nodup) : b ∉ obl vk ∧ b ∉ obl vc ∧ (∀ p ∈ K, b ∉ p.2.2 ∧ (∀ x ∈ obl vk, x ∉ p.2.2) ∧ ∀ x ∈ obl vc, x ∉ p.2.2) ∧ (∀ x ∈ obl vk, x ∉ obl vc) := by
  unfold fpt at h
  rw [List.nodup_cons, List.append_assoc, List.nodup_append, List.nodup_append] at h
  obtain ⟨h1, h2, ⟨h3, h4, h5⟩, h6⟩ := h
  simp only [List.mem_append, List.mem_flatten, List.mem_map, not_or] at h1
  refine ⟨h1.1, h1.2.1, fun p hp => ⟨fun hm => h1.2.2 ⟨_, ⟨p, hp, rfl⟩, hm⟩, fun x hx hm => ?_, fun x hx hm => ?_⟩, fun x hx hm => h6 x hx x (List.mem_append.2 (.inl hm)) rfl⟩
  · exact h6 x hx x (List.mem_append.2 (.inr (List.mem_flatten.2 ⟨_, List.mem_map.2 ⟨p, hp, rfl⟩, hm⟩))) rfl
  · exact h5 x hx x (List.mem_flatten.2 ⟨_, List.mem_map.2 ⟨p, hp, rfl⟩, hm⟩) rfl
/-- The row of keys is another one. -/
theorem NdP.setK (h : NdP d w b vk vc kk bs K) (hf : Fr (obl vk) w w2) (hn : OwnR inE w2 0 3 v' kk') (hv : Moves w vk v') :
    NdP d (w2.setCell ⟨b, 0, none⟩ v') b v' vc kk' bs K ∧ Fr (b :: obl vk) w (w2.setCell ⟨b, 0, none⟩ v') ∧ (∀ y ∈ fpt b v' vc K, y ∈ fpt b vk vc K ∨ w.heap.size ≤ y) := by
  obtain ⟨k1, k2, k3, k4, k5⟩ := nd_setK h.file h.keys hf hn hv
  obtain ⟨n1, n2, n3, n4⟩ := nodup_parts h.nodup
  have hbnd : ∀ y ∈ fpt b v' vc K, y ∈ fpt b vk vc K ∨ w.heap.size ≤ y := fun y hy => by
    unfold fpt at hy ⊢
    simp only [List.mem_cons, List.mem_append] at hy ⊢
    rcases hy with hy | (hy | hy) | hy
    · exact .inl (.inl hy)
    · exact (k4 y hy).imp (fun h => .inr (.inl (.inl h))) id
    · exact .inl (.inr (.inl (.inr hy)))
    · exact .inl (.inr (.inr hy))
  have hlt := h.lt
  refine ⟨⟨k1, k2, h.kids.kept k3 (fun x hx e => ?_), fun p hp => (h.each p hp).fr k3 (fun x hx => ?_), ?_⟩, k3, hbnd⟩
  · rcases List.mem_cons.1 hx with rfl | hx
    · exact n2 (mem_obl.2 e)
    · exact n4 x hx (mem_obl.2 e)
  · rcases List.mem_cons.1 hx with rfl | hx
    · exact (n3 p hp).1
    · exact (n3 p hp).2.1 x hx
  · have := nd_mid (U := [b]) (Fi := obl vk) (V := obl vc ++ (K.map (·.2.2)).flatten) (X := obl v') (N := w.heap.size) (by have := h.nodup; unfold fpt at this; simpa [List.append_assoc] using this) (obl_nodup v') k4 (fun y hy => hlt y (by
      unfold fpt
      simp only [List.mem_cons, List.mem_append, List.not_mem_nil, or_false] at hy ⊢
      rcases hy with hy | hy | hy
      · exact .inl hy
      · exact .inr (.inl (.inr hy))
      · exact .inr (.inr hy)))
    unfold fpt
    simpa [List.append_assoc] using this
/-- The row of kids is another one. -/
theorem NdP.setC (h : NdP d w b vk vc kk bs K) (hf : Fr (obl vc) w w2) (hn : OwnR pbE w2 0 99 v' bs') (hv : Moves w vc v') :
    NdP d (w2.setCell ⟨b, 1, none⟩ v') b vk v' kk bs' K ∧ Fr (b :: obl vc) w (w2.setCell ⟨b, 1, none⟩ v') ∧ (∀ y ∈ fpt b vk v' K, y ∈ fpt b vk vc K ∨ w.heap.size ≤ y) := by
  obtain ⟨n1, n2, n3, n4⟩ := nodup_parts h.nodup
  have h2 := hf.get h.file n2
  have hb' : v'.ownBlock ≠ some b := own_ne_block hn h2 (by decide)
  have hs : Fr [b] w2 (w2.setCell ⟨b, 1, none⟩ v') := (Fr.refl _ _).setCell (.inl (by simp)) _
  have k3 : Fr (b :: obl vc) w (w2.setCell ⟨b, 1, none⟩ v') := (hf.mono (fun x hx => .inl (List.mem_cons_of_mem _ hx))).step hs (fun x hx => .inl (by simp only [List.mem_singleton] at hx; simp [hx]))
  have k4 : ∀ y ∈ obl v', y ∈ obl vc ∨ w.heap.size ≤ y := fun y hy => by
    rcases hv with e | ⟨g, e1, e2⟩
    · exact .inl (mem_obl.2 (by rw [← e]; exact mem_obl.1 hy))
    · have := mem_obl.1 hy
      rw [e1] at this
      injection this with this
      exact .inr (by omega)
  have hbnd : ∀ y ∈ fpt b vk v' K, y ∈ fpt b vk vc K ∨ w.heap.size ≤ y := fun y hy => by
    unfold fpt at hy ⊢
    simp only [List.mem_cons, List.mem_append] at hy ⊢
    rcases hy with hy | (hy | hy) | hy
    · exact .inl (.inl hy)
    · exact .inl (.inr (.inl (.inl hy)))
    · exact (k4 y hy).imp (fun h => .inr (.inl (.inr h))) id
    · exact .inl (.inr (.inr hy))
  have hlt := h.lt
  refine ⟨⟨set_block h2 _, h.keys.kept k3 (fun x hx e => ?_), hn.kept hs (by simpa using hb'), fun p hp => (h.each p hp).fr k3 (fun x hx => ?_), ?_⟩, k3, hbnd⟩
  · rcases List.mem_cons.1 hx with rfl | hx
    · exact n1 (mem_obl.2 e)
    · exact n4 x (mem_obl.2 e) hx
  · rcases List.mem_cons.1 hx with rfl | hx
    · exact (n3 p hp).1
    · exact (n3 p hp).2.2 x hx
  · have := nd_mid (U := b :: obl vk) (Fi := obl vc) (V := (K.map (·.2.2)).flatten) (X := obl v') (N := w.heap.size) (by have := h.nodup; unfold fpt at this; simpa [List.append_assoc] using this) (obl_nodup v') k4 (fun y hy => hlt y (by
      unfold fpt
      simp only [List.mem_cons, List.mem_append] at hy ⊢
      rcases hy with (hy | hy) | hy
      · exact .inl hy
      · exact .inr (.inl (.inl hy))
      · exact .inr (.inr hy)))
    unfold fpt
    simpa [List.append_assoc] using this
/-- A kid has turned (and was split, maybe). -/
theorem NdP.kid (h : NdP d w b vk vc kk bs K) {i : Nat} (hi : i < K.length) {X : List Nat} (hX : X.Nodup) (hx : ∀ y ∈ X, y ∈ K[i].2.2 ∨ w.heap.size ≤ y) (hf : FrP (· ∈ K[i].2.2) w w2)
    (hK : ∀ p ∈ K', p ∈ K.eraseIdx i ∨ Nd d w2 p.1 p.2.1 p.2.2) (hfl : (K'.map (·.2.2)).flatten = ((K.map (·.2.2)).set i X).flatten) :
    NdP d w2 b vk vc kk bs K' ∧ (∀ y ∈ fpt b vk vc K', y ∈ fpt b vk vc K ∨ w.heap.size ≤ y) ∧ FrP (· ∈ fpt b vk vc K) w w2 := by
  obtain ⟨n1, n2, n3, n4⟩ := nodup_parts h.nodup
  have hm := List.getElem_mem hi
  obtain ⟨m1, m2, m3⟩ := n3 _ hm
  have hi' : i < (K.map (·.2.2)).length := by simpa using hi
  have hgi : (K.map (·.2.2))[i]'hi' = K[i].2.2 := by simp
  have hnd := h.nodup
  have hlt := h.lt
  have e1 : fpt b vk vc K = (b :: (obl vk ++ obl vc ++ ((K.map (·.2.2)).take i).flatten)) ++ K[i].2.2 ++ ((K.map (·.2.2)).drop (i + 1)).flatten := by
    unfold fpt
    rw [flat_split hi', hgi]
    simp [List.append_assoc]
  have e2 : fpt b vk vc K' = (b :: (obl vk ++ obl vc ++ ((K.map (·.2.2)).take i).flatten)) ++ X ++ ((K.map (·.2.2)).drop (i + 1)).flatten := by
    unfold fpt
    rw [hfl, flat_set hi']
    simp [List.append_assoc]
  rw [e1] at hnd
  refine ⟨⟨(hf.block b (lt_of_heap h.file) m1).trans h.file, h.keys.frP' hf (fun g hg => m2 g (mem_obl.2 hg)), h.kids.frP' hf (fun g hg => m3 g (mem_obl.2 hg)), fun p hp => ?_, ?_⟩, fun y hy => ?_, ⟨hf.os, hf.tape, hf.output, hf.size, fun k hk hn => hf.block k hk (fun hq => hn (h.sub hm k hq))⟩⟩
  · rcases hK p hp with hp | hp
    · refine (h.each p (List.mem_of_mem_eraseIdx hp)).frP hf (fun x hx' hq => ?_)
      rw [List.nodup_append, List.nodup_append] at hnd
      obtain ⟨⟨_, _, q1⟩, _, q2⟩ := hnd
      obtain ⟨j, hj2, hj1, hjp⟩ := List.mem_eraseIdx_iff_getElem.1 hp
      have hin : p.2.2 ∈ (K.map (·.2.2)).take i ∨ p.2.2 ∈ (K.map (·.2.2)).drop (i + 1) := by
        by_cases hlt : j < i
        · left
          rw [← hjp]
          have : (K.map (·.2.2))[j]'(by simpa using hj2) = K[j].2.2 := by simp
          rw [← this]
          exact List.mem_take_iff_getElem.2 ⟨j, by simp; omega, rfl⟩
        · right
          rw [← hjp]
          have : (K.map (·.2.2))[j]'(by simpa using hj2) = K[j].2.2 := by simp
          rw [← this]
          exact List.mem_drop_iff_getElem.2 ⟨j - (i + 1), by simp; omega, by congr 1; omega⟩
      rcases hin with hin | hin
      · exact q1 x (by simp only [List.mem_cons, List.mem_append, List.mem_flatten]; exact .inr (.inr ⟨_, hin, hx'⟩)) x hq rfl
      · exact q2 x (List.mem_append.2 (.inr hq)) x (List.mem_flatten.2 ⟨_, hin, hx'⟩) rfl
    · exact hp
  · rw [e2]
    refine nd_mid hnd hX hx (fun y hy => hlt y ?_)
    rw [e1]
    rcases List.mem_append.1 hy with hy | hy
    · exact List.mem_append.2 (.inl (List.mem_append.2 (.inl hy)))
    · exact List.mem_append.2 (.inr hy)
  · rw [e2] at hy
    rw [e1]
    simp only [List.mem_append] at hy ⊢
    rcases hy with (hy | hy) | hy
    · exact .inl (.inl (.inl hy))
    · exact (hx y hy).imp (fun h => .inl (.inr h)) id
    · exact .inl (.inr hy)
end
end Go.Proofs.YtokbhiokcoldbaaDoor
/- An inner node that is split. -/
namespace Go.Proofs.YtokbhiokcoldbaaDoor
open Go.RowKit

theorem own_mono {α : Type} {E : Enc α} {w : World} {B C e : Nat} {v : Value} {l : List α} (h : OwnR E w B e v l) (hC : C ≤ B) : OwnR E w C e v l := by
  obtain ⟨h1, h2⟩ := h
  refine ⟨h1, ?_⟩
  rcases h2 with h2 | ⟨g, cap, cur, e0, hb, r⟩
  · exact .inl h2
  · exact .inr ⟨g, cap, cur, e0, Nat.le_trans hC hb, r⟩
theorem NdP.cut {d : Nat} {w w1 w4 : World} {b g c gc cc : Nat} {cl cl2 : Value} {kk : List Int} {bs : List Nat} {K : List (Kd d)} (h : NdP d w b (.slice (some ⟨g, 0, none⟩) 5 c) (.slice (some ⟨gc, 0, none⟩) 6 cc) kk bs K) (h5 : kk.length = 5) (h6 : bs.length = 6)
    (hf1 : Fr [] w w1) (ho1 : OwnR inE w1 w.heap.size 3 cl (kk.drop 3)) (w3 : World) (hw3 : w3 = (w1.alloc (.cells #[cl, .slice none 0 0] 102)).setCell ⟨b, 0, none⟩ (.slice (some ⟨g, 0, none⟩) 2 c))
    (hf4 : Fr [] w3 w4) (ho4 : OwnR pbE w4 w3.heap.size 99 cl2 (bs.drop 3)) (w6 : World) (hw6 : w6 = (w4.setCell ⟨w1.heap.size, 1, none⟩ cl2).setCell ⟨b, 1, none⟩ (.slice (some ⟨gc, 0, none⟩) 3 cc)) :
    NdP d w6 b (.slice (some ⟨g, 0, none⟩) 2 c) (.slice (some ⟨gc, 0, none⟩) 3 cc) (kk.take 2) (bs.take 3) (K.take 3) ∧ NdP d w6 w1.heap.size cl cl2 (kk.drop 3) (bs.drop 3) (K.drop 3) ∧
    (fpt b (.slice (some ⟨g, 0, none⟩) 2 c) (.slice (some ⟨gc, 0, none⟩) 3 cc) (K.take 3) ++ fpt w1.heap.size cl cl2 (K.drop 3)).Nodup ∧
    (∀ y ∈ fpt b (.slice (some ⟨g, 0, none⟩) 2 c) (.slice (some ⟨gc, 0, none⟩) 3 cc) (K.take 3) ++ fpt w1.heap.size cl cl2 (K.drop 3), y ∈ fpt b (.slice (some ⟨g, 0, none⟩) 5 c) (.slice (some ⟨gc, 0, none⟩) 6 cc) K ∨ w.heap.size ≤ y) ∧ Fr [b] w w6 := by
  have hbw := lt_of_heap h.file
  have hlt := h.lt
  obtain ⟨n1, n2, n3, n4⟩ := nodup_parts h.nodup
  have hbg : b ≠ g := fun e => n1 (mem_obl.2 (by rw [e]; rfl))
  have hbc : b ≠ gc := fun e => n2 (mem_obl.2 (by rw [e]; rfl))
  have z1 := hf1.size
  have hfa : Fr [] w1 (w1.alloc (.cells #[cl, .slice none 0 0] 102)) := (Fr.refl _ _).alloc _
  have hsa : (w1.alloc (.cells #[cl, .slice none 0 0] 102)).heap.size = w1.heap.size + 1 := by simp
  have hs3 : Fr [b] (w1.alloc (.cells #[cl, .slice none 0 0] 102)) w3 := by rw [hw3]; exact (Fr.refl _ _).setCell (.inl (by simp)) _
  have z3 : w3.heap.size = w1.heap.size + 1 := by rw [hw3]; simp [World.setCell]
  have z4 := hf4.size
  have hf2 := hf1.trans hfa
  have hF3 : Fr [b] w w3 := hf2.nil.step hs3 (fun x hx => .inl hx)
  have hF4 : Fr [b] w w4 := hF3.step hf4 (by simp)
  have hs6 : Fr [b, w1.heap.size] w4 w6 := by rw [hw6]; exact ((Fr.refl _ _).setCell (.inl (by simp)) _).setCell (.inl (by simp)) _
  have hF6 : Fr [b] w w6 := hF4.step hs6 (fun x hx => by
    simp only [List.mem_cons, List.not_mem_nil, or_false] at hx
    rcases hx with rfl | rfl
    · exact .inl (by simp)
    · exact .inr (by omega))
  have hb3 : w3.heap[b]? = some (.cells #[.slice (some ⟨g, 0, none⟩) 2 c, .slice (some ⟨gc, 0, none⟩) 6 cc] 102 (0, 0)) := by rw [hw3]; exact set_block (hf2.get h.file (by simp)) _
  have hb4 := hf4.get hb3 (by simp)
  have hx4 : w4.heap[w1.heap.size]? = some (.cells #[cl, .slice none 0 0] 102 (0, 0)) := hf4.get (hs3.get (heap_alloc_new w1 _) (by simp; omega)) (by simp)
  have hne : b ≠ w1.heap.size := by omega
  have c1 : ∀ y ∈ obl cl, w.heap.size ≤ y ∧ y < w1.heap.size := fun y hy => ho1.ge y (mem_obl.1 hy)
  have c2 : ∀ y ∈ obl cl2, w1.heap.size < y := fun y hy => by have := (ho4.ge y (mem_obl.1 hy)).1; omega
  have k6 : OwnR inE w6 0 3 (.slice (some ⟨g, 0, none⟩) 5 c) kk := h.keys.kept hF6 (fun x hx e => by simp only [List.mem_singleton] at hx; subst hx; exact n1 (mem_obl.2 e))
  have p6 : OwnR pbE w6 0 99 (.slice (some ⟨gc, 0, none⟩) 6 cc) bs := h.kids.kept hF6 (fun x hx e => by simp only [List.mem_singleton] at hx; subst hx; exact n2 (mem_obl.2 e))
  have e6 : ∀ p ∈ K, Nd d w6 p.1 p.2.1 p.2.2 := fun p hp => (h.each p hp).fr hF6 (fun x hx => by simp only [List.mem_singleton] at hx; subst hx; exact (n3 p hp).1)
  have l6 : OwnR inE w6 0 3 cl (kk.drop 3) := by
    have q1 := ((ho1.kept hfa (by simp)).kept hs3 (fun x hx e => by simp only [List.mem_singleton] at hx; have := c1 x (mem_obl.2 e); omega)).kept hf4 (by simp)
    refine (q1.kept hs6 (fun x hx e => ?_)).base'
    have := c1 x (mem_obl.2 e)
    simp only [List.mem_cons, List.not_mem_nil, or_false] at hx
    rcases hx with rfl | rfl <;> omega
  have m6 : OwnR pbE w6 0 99 cl2 (bs.drop 3) := (ho4.kept hs6 (fun x hx e => by
    have := c2 x (mem_obl.2 e)
    simp only [List.mem_cons, List.not_mem_nil, or_false] at hx
    rcases hx with rfl | rfl <;> omega)).base'
  have f6 : w6.heap[b]? = some (.cells #[.slice (some ⟨g, 0, none⟩) 2 c, .slice (some ⟨gc, 0, none⟩) 3 cc] 102 (0, 0)) := by
    rw [hw6]
    exact set_block (((Fr.refl [w1.heap.size] w4).setCell (.inl (by simp)) _).get hb4 (by simpa using hne)) _
  have g6 : w6.heap[w1.heap.size]? = some (.cells #[cl, cl2] 102 (0, 0)) := by
    rw [hw6]
    exact ((Fr.refl [b] (w4.setCell ⟨w1.heap.size, 1, none⟩ cl2)).setCell (.inl (by simp)) _).get (set_block hx4 _) (by simpa using Ne.symm hne)
  have hfl : (K.map (·.2.2)).flatten = ((K.take 3).map (·.2.2)).flatten ++ ((K.drop 3).map (·.2.2)).flatten := by
    rw [← List.flatten_append, ← List.map_append, List.take_append_drop]
  have hold : ∀ y, y ∈ (b :: ([g] ++ [gc] ++ ((K.take 3).map (·.2.2)).flatten)) ++ ((K.drop 3).map (·.2.2)).flatten → y ∈ fpt b (.slice (some ⟨g, 0, none⟩) 5 c) (.slice (some ⟨gc, 0, none⟩) 6 cc) K := fun y hy => by
    show y ∈ b :: ([g] ++ [gc] ++ (K.map (·.2.2)).flatten)
    rw [hfl]
    simpa [List.append_assoc] using hy
  have hnew : ∀ y, y ∈ w1.heap.size :: (obl cl ++ obl cl2) → w.heap.size ≤ y := fun y hy => by
    simp only [List.mem_cons, List.mem_append] at hy
    rcases hy with rfl | hy | hy
    · omega
    · exact (c1 y hy).1
    · have := c2 y hy; omega
  have hperm : (fpt b (.slice (some ⟨g, 0, none⟩) 2 c) (.slice (some ⟨gc, 0, none⟩) 3 cc) (K.take 3) ++ fpt w1.heap.size cl cl2 (K.drop 3)).Perm (((b :: ([g] ++ [gc] ++ ((K.take 3).map (·.2.2)).flatten)) ++ ((K.drop 3).map (·.2.2)).flatten) ++ (w1.heap.size :: (obl cl ++ obl cl2))) := by
    have e1 : fpt b (.slice (some ⟨g, 0, none⟩) 2 c) (.slice (some ⟨gc, 0, none⟩) 3 cc) (K.take 3) = b :: ([g] ++ [gc] ++ ((K.take 3).map (·.2.2)).flatten) := rfl
    have e2 : fpt w1.heap.size cl cl2 (K.drop 3) = (w1.heap.size :: (obl cl ++ obl cl2)) ++ ((K.drop 3).map (·.2.2)).flatten := by unfold fpt; simp
    have aux : ∀ (A N D : List Nat), (A ++ (N ++ D)).Perm ((A ++ D) ++ N) := fun A N D => by rw [List.append_assoc]; exact List.Perm.append_left _ List.perm_append_comm
    rw [e1, e2]
    exact aux _ _ _
  have hnd : (fpt b (.slice (some ⟨g, 0, none⟩) 2 c) (.slice (some ⟨gc, 0, none⟩) 3 cc) (K.take 3) ++ fpt w1.heap.size cl cl2 (K.drop 3)).Nodup := by
    rw [hperm.nodup_iff, List.nodup_append]
    refine ⟨?_, ?_, fun y hy z hz => ?_⟩
    · have := h.nodup
      have e : fpt b (.slice (some ⟨g, 0, none⟩) 5 c) (.slice (some ⟨gc, 0, none⟩) 6 cc) K = (b :: ([g] ++ [gc] ++ ((K.take 3).map (·.2.2)).flatten)) ++ ((K.drop 3).map (·.2.2)).flatten := by
        show b :: ([g] ++ [gc] ++ (K.map (·.2.2)).flatten) = _
        rw [hfl]
        simp [List.append_assoc]
      rw [e] at this
      exact this
    · rw [List.nodup_cons, List.nodup_append]
      refine ⟨fun hm => ?_, obl_nodup cl, obl_nodup cl2, fun y hy z hz => ?_⟩
      · rcases List.mem_append.1 hm with hm | hm
        · have := (c1 _ hm).2; omega
        · have := c2 _ hm; omega
      · have := (c1 y hy).2
        have := c2 z hz
        omega
    · have := hlt y (hold y hy)
      have := hnew z hz
      omega
  have hnds := List.nodup_append.1 hnd
  refine ⟨⟨f6, k6.take 2 (by omega), p6.take 3 (by omega), fun p hp => e6 p (List.mem_of_mem_take hp), hnds.1⟩, ⟨g6, l6, m6, fun p hp => e6 p (List.mem_of_mem_drop hp), hnds.2.1⟩, hnd, fun y hy => ?_, hF6⟩
  rcases List.mem_append.1 (hperm.mem_iff.1 hy) with hy | hy
  · exact .inl (hold y hy)
  · exact .inr (hnew y hy)
end Go.Proofs.YtokbhiokcoldbaaDoor
