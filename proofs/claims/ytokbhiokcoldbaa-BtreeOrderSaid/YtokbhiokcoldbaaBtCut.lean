/- An inner node that is split. -/
import Derived.Test.YtokbhiokcoldbaaBtStep
namespace Go.Proofs.Ytokbhiokcoldbaa
open Go.RowKit

theorem own_mono {α : Type} {E : Enc α} {w : World} {B C e : Nat} {v : Value} {l : List α} (h : OwnR E w B e v l) (hC : C ≤ B) : OwnR E w C e v l := by
  obtain ⟨h1, h2⟩ := h
  refine ⟨h1, ?_⟩
  rcases h2 with h2 | ⟨g, cap, cur, e0, hb, r⟩
  · exact .inl h2
  · exact .inr ⟨g, cap, cur, e0, Nat.le_trans hC hb, r⟩
theorem NdP.cut {d : Nat} {w w1 w4 : World} {b g c gc cc : Nat} {cl cl2 : Value} {kk : List Int} {bs : List Nat} {K : List (Kd d)} (h : NdP d w b (.slice (some ⟨g, 0, none⟩) 5 c) (.slice (some ⟨gc, 0, none⟩) 6 cc) kk bs K) (h5 : kk.length = 5) (h6 : bs.length = 6)
    (hf1 : Fr [] w w1) (ho1 : OwnR inE w1 w.heap.size 3 cl (kk.drop 3)) (w3 : World) (hw3 : w3 = (w1.alloc (.cells #[cl, .slice none 0 0] 63)).setCell ⟨b, 0, none⟩ (.slice (some ⟨g, 0, none⟩) 2 c))
    (hf4 : Fr [] w3 w4) (ho4 : OwnR pbE w4 w3.heap.size 58 cl2 (bs.drop 3)) (w6 : World) (hw6 : w6 = (w4.setCell ⟨w1.heap.size, 1, none⟩ cl2).setCell ⟨b, 1, none⟩ (.slice (some ⟨gc, 0, none⟩) 3 cc)) :
    NdP d w6 b (.slice (some ⟨g, 0, none⟩) 2 c) (.slice (some ⟨gc, 0, none⟩) 3 cc) (kk.take 2) (bs.take 3) (K.take 3) ∧ NdP d w6 w1.heap.size cl cl2 (kk.drop 3) (bs.drop 3) (K.drop 3) ∧
    (fpt b (.slice (some ⟨g, 0, none⟩) 2 c) (.slice (some ⟨gc, 0, none⟩) 3 cc) (K.take 3) ++ fpt w1.heap.size cl cl2 (K.drop 3)).Nodup ∧
    (∀ y ∈ fpt b (.slice (some ⟨g, 0, none⟩) 2 c) (.slice (some ⟨gc, 0, none⟩) 3 cc) (K.take 3) ++ fpt w1.heap.size cl cl2 (K.drop 3), y ∈ fpt b (.slice (some ⟨g, 0, none⟩) 5 c) (.slice (some ⟨gc, 0, none⟩) 6 cc) K ∨ w.heap.size ≤ y) ∧ Fr [b] w w6 := by
  have hbw := lt_of_heap h.file
  have hlt := h.lt
  obtain ⟨n1, n2, n3, n4⟩ := nodup_parts h.nodup
  have hbg : b ≠ g := fun e => n1 (mem_obl.2 (by rw [e]; rfl))
  have hbc : b ≠ gc := fun e => n2 (mem_obl.2 (by rw [e]; rfl))
  have z1 := hf1.size
  have hfa : Fr [] w1 (w1.alloc (.cells #[cl, .slice none 0 0] 63)) := (Fr.refl _ _).alloc _
  have hsa : (w1.alloc (.cells #[cl, .slice none 0 0] 63)).heap.size = w1.heap.size + 1 := by simp
  have hs3 : Fr [b] (w1.alloc (.cells #[cl, .slice none 0 0] 63)) w3 := by rw [hw3]; exact (Fr.refl _ _).setCell (.inl (by simp)) _
  have z3 : w3.heap.size = w1.heap.size + 1 := by rw [hw3]; simp [World.setCell]
  have z4 := hf4.size
  have hf2 := hf1.trans hfa
  have hF3 : Fr [b] w w3 := hf2.nil.step hs3 (fun x hx => .inl hx)
  have hF4 : Fr [b] w w4 := hF3.step hf4 (by simp)
  have hs6 : Fr [b, w1.heap.size] w4 w6 := by rw [hw6]; exact ((Fr.refl _ _).setCell (.inl (by simp)) _).setCell (.inl (by simp)) _
  have hF6 : Fr [b] w w6 := hF4.step hs6 (fun x hx => by
    simp only [List.mem_cons, List.not_mem_nil, or_false] at hx
    rcases hx with rfl | rfl
    · exact .inl (by simp)
    · exact .inr (by omega))
  have hb3 : w3.heap[b]? = some (.cells #[.slice (some ⟨g, 0, none⟩) 2 c, .slice (some ⟨gc, 0, none⟩) 6 cc] 63 (0, 0)) := by rw [hw3]; exact set_block (hf2.get h.file (by simp)) _
  have hb4 := hf4.get hb3 (by simp)
  have hx4 : w4.heap[w1.heap.size]? = some (.cells #[cl, .slice none 0 0] 63 (0, 0)) := hf4.get (hs3.get (heap_alloc_new w1 _) (by simp; omega)) (by simp)
  have hne : b ≠ w1.heap.size := by omega
  have c1 : ∀ y ∈ obl cl, w.heap.size ≤ y ∧ y < w1.heap.size := fun y hy => ho1.ge y (mem_obl.1 hy)
  have c2 : ∀ y ∈ obl cl2, w1.heap.size < y := fun y hy => by have := (ho4.ge y (mem_obl.1 hy)).1; omega
  have k6 : OwnR inE w6 0 3 (.slice (some ⟨g, 0, none⟩) 5 c) kk := h.keys.kept hF6 (fun x hx e => by simp only [List.mem_singleton] at hx; subst hx; exact n1 (mem_obl.2 e))
  have p6 : OwnR pbE w6 0 58 (.slice (some ⟨gc, 0, none⟩) 6 cc) bs := h.kids.kept hF6 (fun x hx e => by simp only [List.mem_singleton] at hx; subst hx; exact n2 (mem_obl.2 e))
  have e6 : ∀ p ∈ K, Nd d w6 p.1 p.2.1 p.2.2 := fun p hp => (h.each p hp).fr hF6 (fun x hx => by simp only [List.mem_singleton] at hx; subst hx; exact (n3 p hp).1)
  have l6 : OwnR inE w6 0 3 cl (kk.drop 3) := by
    have q1 := ((ho1.kept hfa (by simp)).kept hs3 (fun x hx e => by simp only [List.mem_singleton] at hx; have := c1 x (mem_obl.2 e); omega)).kept hf4 (by simp)
    refine (q1.kept hs6 (fun x hx e => ?_)).base'
    have := c1 x (mem_obl.2 e)
    simp only [List.mem_cons, List.not_mem_nil, or_false] at hx
    rcases hx with rfl | rfl <;> omega
  have m6 : OwnR pbE w6 0 58 cl2 (bs.drop 3) := (ho4.kept hs6 (fun x hx e => by
    have := c2 x (mem_obl.2 e)
    simp only [List.mem_cons, List.not_mem_nil, or_false] at hx
    rcases hx with rfl | rfl <;> omega)).base'
  have f6 : w6.heap[b]? = some (.cells #[.slice (some ⟨g, 0, none⟩) 2 c, .slice (some ⟨gc, 0, none⟩) 3 cc] 63 (0, 0)) := by
    rw [hw6]
    exact set_block (((Fr.refl [w1.heap.size] w4).setCell (.inl (by simp)) _).get hb4 (by simpa using hne)) _
  have g6 : w6.heap[w1.heap.size]? = some (.cells #[cl, cl2] 63 (0, 0)) := by
    rw [hw6]
    exact ((Fr.refl [b] (w4.setCell ⟨w1.heap.size, 1, none⟩ cl2)).setCell (.inl (by simp)) _).get (set_block hx4 _) (by simpa using Ne.symm hne)
  have hfl : (K.map (·.2.2)).flatten = ((K.take 3).map (·.2.2)).flatten ++ ((K.drop 3).map (·.2.2)).flatten := by
    rw [← List.flatten_append, ← List.map_append, List.take_append_drop]
  have hold : ∀ y, y ∈ (b :: ([g] ++ [gc] ++ ((K.take 3).map (·.2.2)).flatten)) ++ ((K.drop 3).map (·.2.2)).flatten → y ∈ fpt b (.slice (some ⟨g, 0, none⟩) 5 c) (.slice (some ⟨gc, 0, none⟩) 6 cc) K := fun y hy => by
    show y ∈ b :: ([g] ++ [gc] ++ (K.map (·.2.2)).flatten)
    rw [hfl]
    simpa [List.append_assoc] using hy
  have hnew : ∀ y, y ∈ w1.heap.size :: (obl cl ++ obl cl2) → w.heap.size ≤ y := fun y hy => by
    simp only [List.mem_cons, List.mem_append] at hy
    rcases hy with rfl | hy | hy
    · omega
    · exact (c1 y hy).1
    · have := c2 y hy; omega
  have hperm : (fpt b (.slice (some ⟨g, 0, none⟩) 2 c) (.slice (some ⟨gc, 0, none⟩) 3 cc) (K.take 3) ++ fpt w1.heap.size cl cl2 (K.drop 3)).Perm (((b :: ([g] ++ [gc] ++ ((K.take 3).map (·.2.2)).flatten)) ++ ((K.drop 3).map (·.2.2)).flatten) ++ (w1.heap.size :: (obl cl ++ obl cl2))) := by
    have e1 : fpt b (.slice (some ⟨g, 0, none⟩) 2 c) (.slice (some ⟨gc, 0, none⟩) 3 cc) (K.take 3) = b :: ([g] ++ [gc] ++ ((K.take 3).map (·.2.2)).flatten) := rfl
    have e2 : fpt w1.heap.size cl cl2 (K.drop 3) = (w1.heap.size :: (obl cl ++ obl cl2)) ++ ((K.drop 3).map (·.2.2)).flatten := by unfold fpt; simp
    have aux : ∀ (A N D : List Nat), (A ++ (N ++ D)).Perm ((A ++ D) ++ N) := fun A N D => by rw [List.append_assoc]; exact List.Perm.append_left _ List.perm_append_comm
    rw [e1, e2]
    exact aux _ _ _
  have hnd : (fpt b (.slice (some ⟨g, 0, none⟩) 2 c) (.slice (some ⟨gc, 0, none⟩) 3 cc) (K.take 3) ++ fpt w1.heap.size cl cl2 (K.drop 3)).Nodup := by
    rw [hperm.nodup_iff, List.nodup_append]
    refine ⟨?_, ?_, fun y hy z hz => ?_⟩
    · have := h.nodup
      have e : fpt b (.slice (some ⟨g, 0, none⟩) 5 c) (.slice (some ⟨gc, 0, none⟩) 6 cc) K = (b :: ([g] ++ [gc] ++ ((K.take 3).map (·.2.2)).flatten)) ++ ((K.drop 3).map (·.2.2)).flatten := by
        show b :: ([g] ++ [gc] ++ (K.map (·.2.2)).flatten) = _
        rw [hfl]
        simp [List.append_assoc]
      rw [e] at this
      exact this
    · rw [List.nodup_cons, List.nodup_append]
      refine ⟨fun hm => ?_, obl_nodup cl, obl_nodup cl2, fun y hy z hz => ?_⟩
      · rcases List.mem_append.1 hm with hm | hm
        · have := (c1 _ hm).2; omega
        · have := c2 _ hm; omega
      · have := (c1 y hy).2
        have := c2 z hz
        omega
    · have := hlt y (hold y hy)
      have := hnew z hz
      omega
  have hnds := List.nodup_append.1 hnd
  refine ⟨⟨f6, k6.take 2 (by omega), p6.take 3 (by omega), fun p hp => e6 p (List.mem_of_mem_take hp), hnds.1⟩, ⟨g6, l6, m6, fun p hp => e6 p (List.mem_of_mem_drop hp), hnds.2.1⟩, hnd, fun y hy => ?_, hF6⟩
  rcases List.mem_append.1 (hperm.mem_iff.1 hy) with hy | hy
  · exact .inl (hold y hy)
  · exact .inr (hnew y hy)
end Go.Proofs.Ytokbhiokcoldbaa
