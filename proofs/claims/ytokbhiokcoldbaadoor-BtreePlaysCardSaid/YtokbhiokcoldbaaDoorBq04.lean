/- The document's tree of nodes by numbers, in plain Lean: Add. No program in sight. -/
import Derived.Shelf.Lay
import Derived.Shelf.Slices.SearchI
import Derived.Shelf.Slices.Empties
import Derived.Test.YtokbhiokcoldbaaDoorBq02
import Derived.Test.YtokbhiokcoldbaaDoorBq03
namespace Go.Proofs.YtokbhiokcoldbaaDoor
namespace Bt

/-- What an insertion below a node has made: of the table (r), of the tree (p). -/
def Res (d : Nat) (ns : List Nn) (i : Nat) (F : List Nat) (r : List Nn × Option (Int × Int)) (p : T d × Option (Int × T d)) : Prop :=
  match p.2 with
  | none => r.2 = none ∧ ∃ F', Rep d r.1 i p.1 F' ∧ F'.Nodup ∧ Chg ns r.1 F F'
  | some (u, q) => ∃ (kid : Nat) (F1 F2 : List Nat), r.2 = some (u, (kid : Int)) ∧ Rep d r.1 i p.1 F1 ∧ Rep d r.1 kid q F2 ∧ (F1 ++ F2).Nodup ∧ Chg ns r.1 F (F1 ++ F2)
theorem set_at {α : Type} {l : List α} {i : Nat} {y : α} (h : i < l.length) : (l.set i y)[i]? = some y := by rw [List.getElem?_set, if_pos rfl, if_pos h]
theorem set_off {α : Type} {l : List α} {i j : Nat} {y : α} (h : j ≠ i) : (l.set i y)[j]? = l[j]? := by rw [List.getElem?_set, if_neg (fun e => h e.symm)]
theorem two_at {α : Type} {l : List α} {i : Nat} {y z : α} (h : i < l.length) : ((l ++ [z]).set i y)[i]? = some y ∧ ((l ++ [z]).set i y)[l.length]? = some z ∧ (∀ j, j < l.length → j ≠ i → ((l ++ [z]).set i y)[j]? = l[j]?) ∧ ((l ++ [z]).set i y).length = l.length + 1 := by
  refine ⟨set_at (by simp; omega), ?_, fun j hj hn => ?_, by simp⟩
  · rw [set_off (by omega)]
    simp
  · rw [set_off hn, List.getElem?_append_left hj]
/-- The node's own step, of a node with kids. -/
theorem body_node {d : Nat} {ns ns' : List Nn} {i : Nat} {F : List Nat} {k0 : List Int} {c0 : List Int} {k kid : Int} {a : Nat} (hi : ns'[i]? = some (k0, c0)) (ha : und k0 k = a) (K : List (Nat × T d × List Nat)) (hc : (if 0 ≤ kid then ins c0 (a + 1) kid else c0) = K.map (fun p => (p.1 : Int)))
    (hK : ∀ p ∈ K, Rep d ns' p.1 p.2.1 p.2.2) (hn : (i :: (K.map (·.2.2)).flatten).Nodup) (hiF : i ∈ F) (hx : ∀ x ∈ (K.map (·.2.2)).flatten, x ∈ F ∨ ns.length ≤ x) (hle : ns.length ≤ ns'.length) (hold : ∀ j, j < ns.length → j ∉ F → ns'[j]? = ns[j]?) :
    Res (d + 1) ns i F (body ns' i k kid) (cutN (ins k0 a k) (K.map (·.2.1))) := by
  have hil : i < ns'.length := (List.getElem?_eq_some_iff.1 hi).1
  have hnd : nd ns' i = (k0, c0) := nd_of hi
  have hni := (List.nodup_cons.1 hn).1
  have hnF := (List.nodup_cons.1 hn).2
  have hlt : ∀ x ∈ (K.map (·.2.2)).flatten, x < ns'.length := fun x hx => by
    obtain ⟨L, hL, hx⟩ := List.mem_flatten.1 hx
    obtain ⟨p, hp, rfl⟩ := List.mem_map.1 hL
    exact (hK p hp).lt x hx
  have hsub : ∀ p ∈ K, ∀ x ∈ p.2.2, x ∈ (K.map (·.2.2)).flatten := fun p hp x hx => List.mem_flatten.2 ⟨_, List.mem_map.2 ⟨p, hp, rfl⟩, hx⟩
  have hbody : body ns' i k kid = if (ins k0 a k).length ≤ 4 then (ns'.set i (ins k0 a k, K.map (fun p => (p.1 : Int))), none) else ((ns' ++ [((ins k0 a k).drop 3, (K.map (fun p => (p.1 : Int))).drop 3)]).set i ((ins k0 a k).take 2, (K.map (fun p => (p.1 : Int))).take 3), some ((ins k0 a k).getD 2 0, (ns'.length : Int))) := by
    unfold body
    rw [hnd]
    dsimp only
    rw [ha, hc]
  rw [hbody]
  generalize ins k0 a k = l at *
  unfold cutN
  by_cases hl : l.length ≤ 4
  · rw [if_pos hl, if_pos hl]
    refine ⟨rfl, i :: (K.map (·.2.2)).flatten, ⟨K, set_at hil, rfl, fun p hp => (hK p hp).keep (fun x hx => set_off (fun e => hni (by rw [← e]; exact hsub p hp x hx))), rfl⟩, hn, ⟨by simpa using hle, fun j hj hjF => ?_, fun j hj => ?_⟩⟩
    · show (ns'.set i _)[j]? = _
      rw [set_off (fun e => hjF (by rw [e]; exact hiF)), hold j hj hjF]
    · rcases List.mem_cons.1 hj with rfl | hj
      · exact .inl hiF
      · exact hx j hj
  · rw [if_neg hl, if_neg hl]
    obtain ⟨e1, e2, e3, e4⟩ := two_at (y := (l.take 2, (K.map (fun p => (p.1 : Int))).take 3)) (z := (l.drop 3, (K.map (fun p => (p.1 : Int))).drop 3)) hil
    have hkeep : ∀ p ∈ K, Rep d ((ns' ++ [(l.drop 3, (K.map (fun p => (p.1 : Int))).drop 3)]).set i (l.take 2, (K.map (fun p => (p.1 : Int))).take 3)) p.1 p.2.1 p.2.2 := fun p hp => (hK p hp).keep (fun x hx => e3 x ((hK p hp).lt x hx) (fun e => hni (by rw [← e]; exact hsub p hp x hx)))
    have hflat : (K.map (·.2.2)).flatten = ((K.take 3).map (·.2.2)).flatten ++ ((K.drop 3).map (·.2.2)).flatten := by
      rw [← List.flatten_append, ← List.map_append, List.take_append_drop]
    refine ⟨ns'.length, i :: ((K.take 3).map (·.2.2)).flatten, ns'.length :: ((K.drop 3).map (·.2.2)).flatten, rfl, ⟨K.take 3, ?_, ?_, fun p hp => hkeep p (List.mem_of_mem_take hp), rfl⟩, ⟨K.drop 3, ?_, ?_, fun p hp => hkeep p (List.mem_of_mem_drop hp), rfl⟩, ?_, ⟨by rw [e4]; omega, fun j hj hjF => ?_, fun j hj => ?_⟩⟩
    · rw [e1, List.map_take]
    · exact List.map_take.symm
    · rw [e2, List.map_drop]
    · exact List.map_drop.symm
    · rw [hflat] at hn hlt
      have h1 := List.nodup_append.1 (List.nodup_cons.1 hn).2
      have h2 := (List.nodup_cons.1 hn).1
      refine List.nodup_append.2 ⟨List.nodup_cons.2 ⟨fun h => h2 (List.mem_append.2 (.inl h)), h1.1⟩, List.nodup_cons.2 ⟨fun h => by have := hlt _ (List.mem_append.2 (.inr h)); omega, h1.2.1⟩, fun x hx y hy e => ?_⟩
      subst e
      rcases List.mem_cons.1 hx with rfl | hx
      · rcases List.mem_cons.1 hy with hy | hy
        · omega
        · exact h2 (List.mem_append.2 (.inr hy))
      · rcases List.mem_cons.1 hy with hy | hy
        · have := hlt x (List.mem_append.2 (.inl hx)); omega
        · exact h1.2.2 x hx x hy rfl
    · show (((ns' ++ _).set i _))[j]? = _
      rw [e3 j (by omega) (fun e => hjF (by rw [e]; exact hiF)), hold j hj hjF]
    · rw [hflat] at hx
      rcases List.mem_append.1 hj with hj | hj
      · rcases List.mem_cons.1 hj with rfl | hj
        · exact .inl hiF
        · exact hx j (List.mem_append.2 (.inl hj))
      · rcases List.mem_cons.1 hj with rfl | hj
        · exact .inr hle
        · exact hx j (List.mem_append.2 (.inr hj))
/-- The same, of a leaf. -/
theorem body_leaf {ns : List Nn} {i : Nat} {k0 : List Int} {k : Int} (hi : ns[i]? = some (k0, [])) (ha : und k0 k = lb k k0) : Res 0 ns i [i] (body ns i k (-1)) (cut0 (ins k0 (lb k k0) k)) := by
  have hil : i < ns.length := (List.getElem?_eq_some_iff.1 hi).1
  have hnd : nd ns i = (k0, []) := nd_of hi
  have hbody : body ns i k (-1) = if (ins k0 (lb k k0) k).length ≤ 4 then (ns.set i (ins k0 (lb k k0) k, []), none) else ((ns ++ [((ins k0 (lb k k0) k).drop 3, [])]).set i ((ins k0 (lb k k0) k).take 2, []), some ((ins k0 (lb k k0) k).getD 2 0, (ns.length : Int))) := by
    unfold body
    rw [hnd]
    dsimp only
    rw [ha, if_neg (show ¬ (0 : Int) ≤ -1 by decide)]
    rfl
  rw [hbody]
  generalize ins k0 (lb k k0) k = l at *
  unfold cut0
  by_cases hl : l.length ≤ 4
  · rw [if_pos hl, if_pos hl]
    refine ⟨rfl, [i], ⟨set_at hil, rfl⟩, by simp, ⟨by simp, fun j hj hjF => ?_, fun j hj => .inl hj⟩⟩
    show (ns.set i _)[j]? = _
    rw [set_off (by simpa using hjF)]
  · rw [if_neg hl, if_neg hl]
    obtain ⟨e1, e2, e3, e4⟩ := two_at (y := (l.take 2, ([] : List Int))) (z := (l.drop 3, ([] : List Int))) hil
    refine ⟨ns.length, [i], [ns.length], rfl, ⟨e1, rfl⟩, ⟨e2, rfl⟩, ?_, ⟨by rw [e4]; omega, fun j hj hjF => ?_, fun j hj => ?_⟩⟩
    · simp; omega
    · show (((ns ++ _).set i _))[j]? = _
      rw [e3 j hj (by simpa using hjF)]
    · simp at hj
      rcases hj with rfl | rfl
      · exact .inl (by simp)
      · exact .inr (Nat.le_refl _)
theorem fold_mid {α β : Type} (f : α → β) (A B : List α) (x : α) : (A ++ x :: B).map f = A.map f ++ f x :: B.map f := by simp
/-- An insertion by the table is one by the tree. -/
theorem up_add : ∀ (d lo : Nat) (ns : List Nn) (i : Nat) (t : T d) (F : List Nat) (x : Int), Rep d ns i t F → F.Nodup → Ok d lo t → Up (all d t) → x ∉ all d t → Res d ns i F (upw ns x (path ns x d i)) (add d t x)
  | 0, lo, ns, i, t, F, x, h, hn, hk, hu, hx => by
    obtain ⟨h1, rfl⟩ := h
    have hu' : Up (show List Int from t) := hu
    exact body_leaf h1 (und_lb hu')
  | d + 1, lo, ns, i, t, F, x, h, hn, hk, hu, hx => by
    obtain ⟨K, h1, h2, h3, rfl⟩ := h
    have hl := map_len hk
    have hku := up_keys t.1 _ hl hu
    obtain ⟨s, hs, hm, hi⟩ := kid_at hk x
    have hnd : nd ns i = (t.1, K.map (fun p => (p.1 : Int))) := nd_of h1
    have hund : und t.1 x = lb x t.1 := und_lb hku
    have hKl : K.length = t.2.length := by rw [h2, List.length_map]
    have hxk : x ∉ t.1 := fun hm => hx ((mem_weave x t.1 _ hl).2 (.inl hm))
    have hus : Up (all d s) := up_kid t.1 _ hl hu _ (List.mem_map.2 ⟨s, hm, rfl⟩)
    have hxs : x ∉ all d s := fun h => hx ((mem_weave x t.1 _ hl).2 (.inr ⟨_, List.mem_map.2 ⟨s, hm, rfl⟩, h⟩))
    have hlbK : ∀ y ∈ all d s, lb y t.1 = lb x t.1 := fun y hy => lb_kid t.1 _ (lb x t.1) hl hu (lb_le x t.1) (by rw [kid_all hs]; exact hy)
    obtain ⟨a, ha⟩ : ∃ a, lb x t.1 = a := ⟨_, rfl⟩
    rw [ha] at hund hs hi hlbK
    obtain ⟨K1, p, K2, hK, hK1⟩ : ∃ K1 p K2, K = K1 ++ p :: K2 ∧ K1.length = a := by
      refine ⟨K.take a, K[a]'(by omega), K.drop (a + 1), ?_, by rw [List.length_take]; omega⟩
      rw [List.getElem_cons_drop, List.take_append_drop]
    subst hK
    have hps : p.2.1 = s := by
      rw [h2, fold_mid, List.getElem?_append_right (by simp; omega)] at hs
      simp [hK1] at hs
      exact hs
    have hp := h3 p (by simp)
    rw [hps] at hp
    have hFs : (((K1 ++ p :: K2).map (·.2.2)).flatten) = (K1.map (·.2.2)).flatten ++ (p.2.2 ++ (K2.map (·.2.2)).flatten) := by simp
    rw [hFs] at hn
    have hn1 := (List.nodup_cons.1 hn).1
    have hn2 := List.nodup_append.1 (List.nodup_cons.1 hn).2
    have hn3 := List.nodup_append.1 hn2.2.1
    have hpath : path ns x (d + 1) i = i :: path ns x d p.1 := by
      show i :: path ns x d ((nd ns i).2.getD (und (nd ns i).1 x) 0).toNat = _
      rw [hnd]
      dsimp only
      rw [hund, fold_mid, List.getD_eq_getElem?_getD, List.getElem?_append_right (by simp; omega)]
      simp [hK1]
    have ih := up_add d 2 ns p.1 s p.2.2 x hp hn3.1 (hk.2.2 s hm) hus hxs
    have hall := add_all d 2 s x (hk.2.2 s hm) hus hxs
    have hadd : add (d + 1) t x = match add d s x with
      | (s', none) => ((t.1, t.2.set a s'), none)
      | (s', some (up, r)) => cutN (ins t.1 a up) (ins (t.2.set a s') (a + 1) r) := by
      show (match t.2[lb x t.1]? with | none => (t, none) | some s => match add d s x with | (s', none) => ((t.1, t.2.set (lb x t.1) s'), none) | (s', some (up, r)) => cutN (ins t.1 (lb x t.1) up) (ins (t.2.set (lb x t.1) s') (lb x t.1 + 1) r)) = _
      rw [ha, hs]
      rfl
    have hupw : upw ns x (path ns x (d + 1) i) = match upw ns x (path ns x d p.1) with
      | (ns', none) => (ns', none)
      | (ns', some (k, kid)) => body ns' i k kid := by rw [hpath]; rfl
    rw [hadd, hupw]
    generalize add d s x = A at *
    generalize upw ns x (path ns x d p.1) = U at *
    obtain ⟨s', o⟩ := A
    obtain ⟨ns', o'⟩ := U
    have hset : t.2.set a s' = K1.map (·.2.1) ++ s' :: K2.map (·.2.1) := by
      rw [h2, fold_mid, show a = (K1.map (·.2.1)).length by simp [hK1], set_mid]
    have hiF : i ∈ i :: ((K1 ++ p :: K2).map (·.2.2)).flatten := by simp
    have hsubF : ∀ x, (x ∈ (K1.map (·.2.2)).flatten ∨ x ∈ p.2.2 ∨ x ∈ (K2.map (·.2.2)).flatten) → x ∈ i :: ((K1 ++ p :: K2).map (·.2.2)).flatten := fun x hx => by
      rw [hFs]
      rcases hx with hx | hx | hx
      · exact List.mem_cons_of_mem _ (List.mem_append.2 (.inl hx))
      · exact List.mem_cons_of_mem _ (List.mem_append.2 (.inr (List.mem_append.2 (.inl hx))))
      · exact List.mem_cons_of_mem _ (List.mem_append.2 (.inr (List.mem_append.2 (.inr hx))))
    have hlt : ∀ x ∈ i :: ((K1 ++ p :: K2).map (·.2.2)).flatten, x < ns.length := fun x hx => Rep.lt (d := d + 1) (t := t) ⟨_, h1, h2, h3, rfl⟩ x hx
    have hi1 : i ∉ p.2.2 := fun h => hn1 (List.mem_append.2 (.inr (List.mem_append.2 (.inl h))))
    have hK1F : ∀ q ∈ K1, ∀ x ∈ q.2.2, x ∈ (K1.map (·.2.2)).flatten := fun q hq x hx => List.mem_flatten.2 ⟨_, List.mem_map.2 ⟨q, hq, rfl⟩, hx⟩
    have hK2F : ∀ q ∈ K2, ∀ x ∈ q.2.2, x ∈ (K2.map (·.2.2)).flatten := fun q hq x hx => List.mem_flatten.2 ⟨_, List.mem_map.2 ⟨q, hq, rfl⟩, hx⟩
    have hd1 : ∀ x ∈ (K1.map (·.2.2)).flatten, x ∉ p.2.2 := fun x hx h => hn2.2.2 x hx x (List.mem_append.2 (.inl h)) rfl
    have hd2 : ∀ x ∈ (K2.map (·.2.2)).flatten, x ∉ p.2.2 := fun x hx h => hn3.2.2 x h x hx rfl
    have hmid : ∀ (P : List Nat), P.Nodup → (∀ x ∈ P, x ∈ p.2.2 ∨ ns.length ≤ x) → (i :: ((K1.map (·.2.2)).flatten ++ (P ++ (K2.map (·.2.2)).flatten))).Nodup := fun P hP hPn => by
      refine List.nodup_cons.2 ⟨fun h => ?_, List.nodup_append.2 ⟨hn2.1, List.nodup_append.2 ⟨hP, hn3.2.1, fun x hx y hy e => ?_⟩, fun x hx y hy e => ?_⟩⟩
      · rcases List.mem_append.1 h with h | h
        · exact hn1 (List.mem_append.2 (.inl h))
        · rcases List.mem_append.1 h with h | h
          · rcases hPn i h with h | h
            · exact hi1 h
            · have := hlt i hiF; omega
          · exact hn1 (List.mem_append.2 (.inr (List.mem_append.2 (.inr h))))
      · subst e
        rcases hPn x hx with h | h
        · exact hd2 x hy h
        · have := hlt x (hsubF x (.inr (.inr hy))); omega
      · subst e
        rcases List.mem_append.1 hy with hy | hy
        · rcases hPn x hy with h | h
          · exact hd1 x hx h
          · have := hlt x (hsubF x (.inl hx)); omega
        · exact hn2.2.2 x hx x (List.mem_append.2 (.inr hy)) rfl
    cases o with
    | none =>
      obtain ⟨rfl, F', g1, g2, g3⟩ : o' = none ∧ ∃ F', Rep d ns' p.1 s' F' ∧ F'.Nodup ∧ Chg ns ns' p.2.2 F' := ih
      have hkeep : ∀ q : Nat × T d × List Nat, Rep d ns q.1 q.2.1 q.2.2 → (∀ x ∈ q.2.2, x ∉ p.2.2) → Rep d ns' q.1 q.2.1 q.2.2 := fun q hq hx => hq.keep (fun x hm => g3.old x (hq.lt x hm) (hx x hm))
      refine ⟨rfl, i :: ((K1.map (·.2.2)).flatten ++ (F' ++ (K2.map (·.2.2)).flatten)), ⟨K1 ++ (p.1, s', F') :: K2, ?_, ?_, fun q hq => ?_, by simp⟩, hmid F' g2 g3.new, ⟨g3.le, fun j hj hjF => g3.old j hj (fun h => hjF (hsubF j (.inr (.inl h)))), fun j hj => ?_⟩⟩
      · rw [g3.old i (hlt i hiF) hi1, h1]
        simp
      · show t.2.set a s' = _
        rw [hset]; simp
      · rcases List.mem_append.1 hq with hq | hq
        · exact hkeep q (h3 q (by simp [hq])) (fun x hx => hd1 x (hK1F q hq x hx))
        · rcases List.mem_cons.1 hq with rfl | hq
          · exact g1
          · exact hkeep q (h3 q (by simp [hq])) (fun x hx => hd2 x (hK2F q hq x hx))
      · rcases List.mem_cons.1 hj with rfl | hj
        · exact .inl hiF
        · rcases List.mem_append.1 hj with hj | hj
          · exact .inl (hsubF j (.inl hj))
          · rcases List.mem_append.1 hj with hj | hj
            · exact (g3.new j hj).imp (fun h => hsubF j (.inr (.inl h))) id
            · exact .inl (hsubF j (.inr (.inr hj)))
    | some uq =>
      obtain ⟨u, q⟩ := uq
      obtain ⟨kid, F1, F2, rfl, g1, g2, g3, g4⟩ : ∃ (kid : Nat) (F1 F2 : List Nat), o' = some (u, (kid : Int)) ∧ Rep d ns' p.1 s' F1 ∧ Rep d ns' kid q F2 ∧ (F1 ++ F2).Nodup ∧ Chg ns ns' p.2.2 (F1 ++ F2) := ih
      have hum : u ∈ insS x (all d s) := by rw [← hall]; unfold fullAll; simp
      have hua : und t.1 u = a := by
        rw [und_lb hku]
        rcases (mem_insS x u _).1 hum with rfl | hu'
        · exact ha
        · exact hlbK u hu'
      have hkeep : ∀ q : Nat × T d × List Nat, Rep d ns q.1 q.2.1 q.2.2 → (∀ x ∈ q.2.2, x ∉ p.2.2) → Rep d ns' q.1 q.2.1 q.2.2 := fun q hq hx => hq.keep (fun x hm => g4.old x (hq.lt x hm) (hx x hm))
      have hm2 : ins (t.2.set a s') (a + 1) q = (K1 ++ (p.1, s', F1) :: (kid, q, F2) :: K2).map (·.2.1) := by
        rw [hset, show a = (K1.map (·.2.1)).length by simp [hK1], ins_mid]
        simp
      have hfl : ((K1 ++ (p.1, s', F1) :: (kid, q, F2) :: K2).map (·.2.2)).flatten = (K1.map (·.2.2)).flatten ++ ((F1 ++ F2) ++ (K2.map (·.2.2)).flatten) := by simp
      show Res (d + 1) ns i _ (body ns' i u (kid : Int)) (cutN (ins t.1 a u) (ins (t.2.set a s') (a + 1) q))
      rw [hm2]
      refine body_node (c0 := (K1 ++ p :: K2).map (fun p => (p.1 : Int))) ((g4.old i (hlt i hiF) hi1).trans h1) hua _ ?_ (fun r hr => ?_) (by rw [hfl]; exact hmid _ g3 g4.new) hiF (fun j hj => ?_) g4.le (fun j hj hjF => g4.old j hj (fun h => hjF (hsubF j (.inr (.inl h)))))
      · rw [if_pos (by omega), fold_mid, show a = (K1.map (fun p => (p.1 : Int))).length by simp [hK1], ins_mid]
        simp
      · rcases List.mem_append.1 hr with hr | hr
        · exact hkeep r (h3 r (by simp [hr])) (fun x hx => hd1 x (hK1F r hr x hx))
        · rcases List.mem_cons.1 hr with rfl | hr
          · exact g1
          · rcases List.mem_cons.1 hr with rfl | hr
            · exact g2
            · exact hkeep r (h3 r (by simp [hr])) (fun x hx => hd2 x (hK2F r hr x hx))
      · rw [hfl] at hj
        rcases List.mem_append.1 hj with hj | hj
        · exact .inl (hsubF j (.inl hj))
        · rcases List.mem_append.1 hj with hj | hj
          · exact (g4.new j hj).imp (fun h => hsubF j (.inr (.inl h))) id
          · exact .inl (hsubF j (.inr (.inr hj)))
end Bt
end Go.Proofs.YtokbhiokcoldbaaDoor
/- Integers as elements of a row, in the words of rows of structs. No program in sight. -/
namespace Go.Proofs.YtokbhiokcoldbaaDoor
open Go.RowKit

/-- An integer as an element of a row. -/
def inE : Enc Int where
  k := 1
  enc := fun x => [.int .i64 x]
  len := fun _ => rfl
  one := fun e v hv => by simp only [List.mem_cons, List.not_mem_nil, or_false] at hv; rcases hv with rfl; rfl
  pos := by decide
theorem inE_cells (l : List Int) : inE.cells l = l.map (Value.int .i64) := by
  induction l with
  | nil => rfl
  | cons a l ih =>
    have e : inE.cells (a :: l) = inE.enc a ++ inE.cells l := rfl
    rw [e, ih]; rfl
theorem own_inE {w : World} {B e : Nat} {v : Value} {l : List Int} : OwnR inE w B e v l ↔ Own w B e v l := by
  unfold OwnR Own
  rw [inE_cells]
  exact Iff.rfl
end Go.Proofs.YtokbhiokcoldbaaDoor

/- slices.BinarySearch at a rising row of integers, off the shelf. -/
namespace Go.Proofs
open Go.Shelf
shelf_lay Lays2.n25 Nm2 25 at Tryd as Tryd.lays2x25
namespace YtokbhiokcoldbaaDoor
open Go.RowKit Go.Lib

theorem lb_count {x : Int} : ∀ {l : List Int}, Bt.Up l → l.countP (· < x) = Bt.lb x l
  | [], _ => rfl
  | y :: r, h => by
    rw [Bt.Up, List.pairwise_cons] at h
    by_cases hy : y < x
    · rw [List.countP_cons_of_pos (by simpa using hy), lb_count h.2, Bt.lb, if_pos hy]
    · rw [List.countP_cons_of_neg (by simpa using hy), Bt.lb, if_neg hy, List.countP_eq_zero]
      intro z hz
      have := h.1 z hz
      simp
      omega
theorem bs_own (w : World) (v : Value) (l : List Int) (x : Int) (h : OwnR inE w 0 3 v l) (hu : Bt.Up l) (hl : l.length ≤ 100000) :
    Calls Tryd.prog 66 #[v, .int .i64 x] w fun e w' => e = .returned (.tuple #[.int .i64 (Bt.lb x l : Nat), .bool (Bt.hasK l x)]) ∧ Fr [] w w' := by
  have hb : Bt.hasK l x = l.contains x := by
    rw [Bt.hasK_mem hu]
    by_cases hm : x ∈ l
    · rw [decide_eq_true hm]; simp [hm]
    · rw [decide_eq_false hm]; simp [hm]
  rcases h.2 with ⟨rfl, hn⟩ | ⟨g, cap, cur, rfl, _, hg, hc, hm, hs, ht⟩
  · have hx := List.eq_nil_of_length_eq_zero hn
    subst hx
    refine (Any.slices_BinarySearch_int_empty Tryd.lays2x25 none 0 x w).mono ?_
    rintro e w' ⟨rfl, rfl⟩
    exact ⟨rfl, Fr.refl _ _⟩
  · have hcell : ∀ j, j < l.length → w.cell? ⟨g, 0 + j, none⟩ = some (.int .i64 (l.getD j 0)) := fun j hj => by
      rw [Nat.zero_add, cell_of_row w g j cur _ _ hg]
      have h3 := inE.cells_get l j 0 hj (by decide)
      rw [← ht, List.getElem?_take, show j * inE.k + 0 = j from by show j * 1 + 0 = j; omega] at h3
      split at h3
      · simpa [inE, List.getD, hj] using h3
      · simp [inE] at h3
    have hp : (l.take l.length).Pairwise (· ≤ ·) := by
      rw [List.take_length]
      exact hu.imp (fun h => by omega)
    refine (Any.slices_BinarySearch_int Tryd.lays2x25 g 0 l.length cap l x w (Nat.le_refl _) (by omega) hcell hp).mono ?_
    rintro e w' ⟨rfl, q, rfl⟩
    rw [List.take_length, lb_count hu, ← hb]
    exact ⟨rfl, (Fr.refl _ _).drewN q⟩
end YtokbhiokcoldbaaDoor
end Go.Proofs
