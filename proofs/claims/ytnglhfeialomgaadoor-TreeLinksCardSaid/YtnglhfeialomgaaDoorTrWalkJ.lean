/- Walk: the two captured variables (the texts so far; the closure itself). -/
import Derived.Test.YtnglhfeialomgaaDoorTrTell
import Derived.Test.YtnglhfeialomgaaDoorKq
import Derived.Test.YtnglhfeialomgaaDoorEncIn
import Derived.Laws.EntriesVeiled
namespace Go.Proofs.YtnglhfeialomgaaDoor
open Go.RowKit

theorem own_ne_block {α : Type} {E : Enc α} {w : World} {B e : Nat} {v : Value} {l : List α} {b : Nat} {cur : Array Value} {t : TypeId} {fr : Nat × Nat} (h : OwnR E w B e v l) (hg : w.heap[b]? = some (.cells cur t fr)) (hne : e ≠ t) : v.ownBlock ≠ some b := by
  rcases h.2 with ⟨rfl, _⟩ | ⟨g, cap, cur', rfl, _, hg', _⟩
  · intro e; cases e
  · intro he
    have he : g = b := by simpa [Value.ownBlock] using he
    subst he
    rw [hg] at hg'
    injection hg' with hg'
    injection hg' with _ hg' _
    exact hne hg'.symm
theorem fr_grown {w w' : World} {v : Value} (hg : w.grownBy w' v.ownBlock) : Fr v.ownBlock.toList w w' := ⟨hg.os, hg.tape, hg.output, hg.size, fun k hk hn => hg.block k hk (fun e => hn (by rw [← e]; simp))⟩
structure WkJ (w0 : World) (vb fb : Nat) (l : List (List UInt8)) (w : World) : Prop where
  out : ∃ A c, w.heap[vb]? = some (.cells #[.slice A l.length c] 30 (0, 0)) ∧ OwnR strE w w0.heap.size 9 (.slice A l.length c) l
  fn : ∃ t, 9 ≠ t ∧ w.heap[fb]? = some (.cells #[.func (.func 26) #[] #[.pointer (some ⟨vb, 0, none⟩), .pointer (some ⟨fb, 0, none⟩)]] t (0, 0))
  fr : Fr [] w0 w
  vge : w0.heap.size ≤ vb
  ne : fb ≠ vb
theorem WkJ.keep {w0 w w' : World} {vb fb : Nat} {l : List (List UInt8)} (h : WkJ w0 vb fb l w) (hf : Fr [] w w') : WkJ w0 vb fb l w' := by
  obtain ⟨⟨A, c, h1, h2⟩, ⟨t, h3, h4⟩, h5, h6, h7⟩ := h
  exact ⟨⟨A, c, hf.get h1 (by simp), h2.kept hf (by simp)⟩, ⟨t, h3, hf.get h4 (by simp)⟩, h5.trans hf, h6, h7⟩
/-- A block that is no cells turns (a range's step). -/
theorem WkJ.turn {w0 w w' : World} {vb fb r : Nat} {l : List (List UInt8)} (h : WkJ w0 vb fb l w) (hf : Fr [r] w w') (hr : w0.heap.size ≤ r) (hc : ∀ o, w.heap[r]? = some o → o.isCells = false) : WkJ w0 vb fb l w' := by
  obtain ⟨⟨A, c, h1, h2⟩, ⟨t, h3, h4⟩, h5, h6, h7⟩ := h
  have hne : ∀ k cs ty fr, w.heap[k]? = some (.cells cs ty fr) → k ∉ [r] := fun k cs ty fr hk hm => by
    simp only [List.mem_singleton] at hm
    subst hm
    have := hc _ hk
    cases this
  refine ⟨⟨A, c, hf.get h1 (hne _ _ _ _ h1), h2.kept hf (fun g hg e => ?_)⟩, ⟨t, h3, hf.get h4 (hne _ _ _ _ h4)⟩, h5.step hf (fun x hx => by simp only [List.mem_singleton] at hx; subst hx; exact .inr hr), h6, h7⟩
  simp only [List.mem_singleton] at hg
  subst hg
  obtain ⟨-, h2⟩ := h2
  rcases h2 with ⟨he, _⟩ | ⟨g, cap, cur, he, hb, hcell, _⟩
  · rw [he] at e; cases e
  · rw [he] at e
    simp only [Value.ownBlock, Option.some.injEq] at e
    subst e
    have := hc _ hcell
    cases this
theorem WkJ.push {w0 w w2 : World} {vb fb : Nat} {l : List (List UInt8)} {x : List UInt8} {A : Option Addr} {c : Nat} {v' : Value} (h : WkJ w0 vb fb l w) (hb : w.heap[vb]? = some (.cells #[.slice A l.length c] 30 (0, 0))) (ho : OwnR strE w w0.heap.size 9 (.slice A l.length c) l)
    (h1 : OwnR strE w2 w0.heap.size 9 v' (l ++ [x])) (hg : w.grownBy w2 (Value.slice A l.length c).ownBlock) : (∃ A' c', v' = .slice A' (l.length + 1) c') ∧ w2.cell? ⟨vb, 0, none⟩ = some (.slice A l.length c) ∧ w2.frozen? ⟨vb, 0, none⟩ = false ∧ WkJ w0 vb fb (l ++ [x]) (w2.setCell ⟨vb, 0, none⟩ v') ∧ KeepsWalks w (w2.setCell ⟨vb, 0, none⟩ v') := by
  obtain ⟨-, ⟨t, h3, h4⟩, h5, h6, h7⟩ := h
  have hfg := fr_grown hg
  have hkw := (ho.keeps hg).walks
  have hbb : w2.heap[vb]? = some (.cells #[.slice A l.length c] 30 (0, 0)) := hfg.get hb (by
    have := own_ne_block ho hb (by decide)
    simpa using this)
  have hbf := hfg.get h4 (by
    have := own_ne_block ho h4 h3
    simpa using this)
  have hS : Fr [vb] w2 (w2.setCell ⟨vb, 0, none⟩ v') := (Fr.refl _ _).setCell (.inl (by simp)) _
  obtain ⟨A', c', hv'⟩ := h1.form0
  refine ⟨⟨A', c', by rw [hv', List.length_append]; rfl⟩, by rw [cell_of_row w2 vb 0 _ _ _ hbb]; rfl, free_block hbb 0 none, ⟨⟨A', c', ?_, ?_⟩, ⟨t, h3, hS.get hbf (by simpa using h7)⟩, ?_, h6, h7⟩, hkw.trans (KeepsOthers.setCell _ _ _).walks⟩
  · rw [← hv']; exact set_block hbb _
  · rw [← hv']
    refine h1.kept hS (fun g hg => ?_)
    simp only [List.mem_singleton] at hg
    subst hg
    exact own_ne_block h1 hbb (by decide)
  · refine (h5.grown hg (fun g hg => .inr (ho.ge g hg).1)).step hS (fun y hy => .inr ?_)
    simp only [List.mem_singleton] at hy
    subst hy
    exact h6
end Go.Proofs.YtnglhfeialomgaaDoor
