/- A loop over an iterator that writes a cell of its own (the box of a variable that it has caught): what the caller says of its own memory must abide a store into that box. No program in sight. -/
import Derived.RangeFuncNested
import Derived.RangeFuncBound
import Derived.RangeFuncCalls
import Derived.RangeFuncLeaves
import Derived.Test.YtnglhfeialomgaaDoorBase
namespace Go.Proofs.YtnglhfeialomgaaDoor
open Go Go.RowKit

/-- It abides a store into the first cell of block b. -/
def Rewr {β : Type} (b : Nat) (I : β → World → Prop) : Prop := ∀ s W v, I s W → I s (W.setCell ⟨b, 0, none⟩ v)
/-- An iterator's contract: its box is block b; Bx tells what it reads. -/
def SeqW {α : Type} (F : Fence) (n : Nat) (P : Program) (g : Nat) (lb : Array Value) (enc : α → Value) (Kp : World → World → Prop) (b : Nat) (S Sp : List α → Prop) (N : Nat) (Bx : World → Prop) : Prop :=
  ∀ (l : Nat) (J Jx : List α → World → Prop) (W : World), Bx W → Rewr b J → Rewr b Jx →
    (∀ pre x W1, J pre W1 → pre.length < N → YieldAt F (n - 1) P l #[enc x] W1 fun e W' => (e = .returned (.bool true) ∧ J (pre ++ [x]) W' ∧ Kp W1 W') ∨ (e = .returned (.bool false) ∧ Jx (pre ++ [x]) W')) → J [] W →
    CallsIn F n P g (#[.func (.yield l) #[] #[]] ++ lb) W fun e W' => (∃ v, e = .returned v) ∧ ((∃ xs, S xs ∧ J xs W') ∨ ∃ pre, Sp pre ∧ Jx pre W')
theorem setCell_else {W : World} {b k : Nat} {o : Obj} (v : Value) (h : W.heap[k]? = some o) (hne : k ≠ b) : (W.setCell ⟨b, 0, none⟩ v).heap[k]? = some o := (Below.heap_setCell W ⟨b, 0, none⟩ v k hne).trans h
section
variable {F : Fence} {n : Nat} {P : Program}
theorem wpIn_rangeFunc_box {α : Type} {g : Operand} {p : Tmp} {assign body : Code} {Q : Exit → Act → World → Prop} {a : Act} {w : World}
    (hro : F.round = none) (h1 : 1 ≤ n) {gf : Nat} {lb : Array Value} (hg : a.eval g = .func (.func gf) #[] lb) (hFg : F.fn gf) (eg : ∀ args w, (callFunc gf args).run P w = .ok (.enter gf args) w)
    {enc : α → Value} {Kp : World → World → Prop} {b : Nat} {S Sp : List α → Prop} {N : Nat} {Bx : World → Prop} (hseq : SeqW F (n - 1) P gf lb enc Kp b S Sp N Bx) (hb : b < w.heap.size)
    (hBx : ∀ W, (∀ k, k < w.heap.size → W.heap[k]? = w.heap[k]?) → Bx W)
    (hKt : ∀ {A B C : World}, Kp A B → Kp B C → Kp A C) (hKb : ∀ (W : World) (l : Nat) (o : Obj), w.heap.size ≤ l → Kp W (W.putObj l o))
    (I : List α → World → Prop) (Ix : Code → List α → World → Prop) (hI : OwnFrom w.heap.size I) (hIx : ∀ c, OwnFrom w.heap.size (Ix c)) (hIw : Rewr b I) (hIxw : ∀ c, Rewr b (Ix c)) (h0 : I [] w) (a₁ : α → Act)
    (hassign : ∀ (l : Nat) (x : α) (W : World) (K : Act → World → Prop), K (a₁ x) W → assign.wpIn (F.inRound l) (n - 1 - 1) P (Exit.then K (fun _ _ _ => False)) { tmps := (#[p].zip #[enc x]).foldl (fun t (p, v) => t.setIfInBounds p v) a.tmps, defers := [] } W)
    (hbody : ∀ (l : Nat) (pre : List α) (x : α) (W : World), I pre W → pre.length < N → body.wpIn (F.inRound l) (n - 1 - 1) P (ownPostG w.heap.size Kp I Ix (pre ++ [x]) W) (a₁ x) W)
    (hdone : ∀ (D : Nat) (xs : List α) (W : World), w.heap.size ≤ D → S xs → I xs W → W.heap[D]? = some (.deferred (some [])) → Q .normal { a with defers := { target := .collected D, args := #[] } :: a.defers } W)
    (hstop : ∀ (D : Nat) (c : Code) (pre : List α) (W : World), w.heap.size ≤ D → Sp pre → Ix c pre W → W.heap[D]? = some (.deferred (some [])) → c.wpIn F n P Q { a with defers := { target := .collected D, args := #[] } :: a.defers } W) :
    (Code.rangeFunc g #[p] assign body).wpIn F n P Q a w := by
  refine wpIn_rangeFunc ?_
  intro fn hfn
  rw [hro]
  -- the loop's record lies at w.heap.size + 1, its book of deferred calls at w.heap.size
  obtain ⟨rec, hrec⟩ : ∃ rec : LoopState → Option Code → Loop, rec = fun st pe => { state := st, pending := pe, fn, tmps := a.tmps, params := #[p], assign, body, defers := w.heap.size } := ⟨_, rfl⟩
  obtain ⟨V, hV⟩ : ∃ V, (w.alloc (.deferred (some []))).alloc (.loop (rec .ready none)) = V := ⟨_, rfl⟩
  have sV : V.heap.size = w.heap.size + 2 := by rw [← hV]; simp
  have rV : V.heap[w.heap.size + 1]? = some (.loop (rec .ready none)) := by
    rw [← hV]
    have := World.alloc_heap_new (w.alloc (.deferred (some []))) (.loop (rec .ready none))
    rwa [World.size_alloc] at this
  have dV : V.heap[w.heap.size]? = some (.deferred (some [])) := by
    rw [← hV]
    exact (Below.heap_alloc _ _ _ (by simp)).trans (World.alloc_heap_new w _)
  have iV : I [] V := by rw [← hV]; exact hI.alloc _ (hI.alloc _ h0)
  have oV : ∀ k, k < w.heap.size → V.heap[k]? = w.heap[k]? := fun k hk => by
    rw [← hV]
    exact (Below.heap_alloc _ _ _ (by simp; omega)).trans (Below.heap_alloc _ _ _ hk)
  refine ⟨w.heap.size + 1, [{ target := .collected w.heap.size, args := #[] }], V, { target := .fn (.func gf) lb, args := #[.func (.yield (w.heap.size + 1)) #[] #[]] }, V, gf,
    #[.func (.yield (w.heap.size + 1)) #[] #[]] ++ lb, V, ?_, ?_, ?_, ?_, fun _ => h1, ?_⟩
  · rw [← hV, hrec]; exact run_enterLoop_outer _ _ _ _ _
  · simp only [resolve, hg]
    simp [go_sem]
  · intro f' hf'
    simp [Target.leads] at hf'
    subst hf'
    exact hFg
  · simp [invoke, go_sem, eg]
  have e1 : w.heap.size + 1 ≠ b := by omega
  have e2 : w.heap.size ≠ b := by omega
  refine (hseq (w.heap.size + 1)
    (fun pre W => I pre W ∧ W.heap[w.heap.size + 1]? = some (.loop (rec .ready none)) ∧ W.heap[w.heap.size]? = some (.deferred (some [])))
    (fun pre W => ∃ c, Ix c pre W ∧ W.heap[w.heap.size + 1]? = some (.loop (rec .done (some c))) ∧ W.heap[w.heap.size]? = some (.deferred (some [])))
    V (hBx V oV) (fun s W v ⟨h, r, d⟩ => ⟨hIw s W v h, setCell_else v r e1, setCell_else v d e2⟩) (fun s W v ⟨c, h, r, d⟩ => ⟨c, hIxw c s W v h, setCell_else v r e1, setCell_else v d e2⟩) ?_ ⟨iV, rV, dV⟩).mono ?_
  · -- a round
    rintro pre x W ⟨hi, hr, hd⟩ hlen
    have hin := (Array.getElem?_eq_some_iff.1 hr).1
    have hy := run_yield (P := P) (args := #[enc x]) hr (by rw [hrec]; rfl)
    rw [hrec] at hy
    refine ⟨fn, _, assign, body, hy, roundIn_of_wpIn hfn ?_⟩
    refine hassign (w.heap.size + 1) x W _ ?_
    refine ⟨_, run_beginRound hr (by rw [hrec]), ?_⟩
    -- the record is busy while the body runs
    obtain ⟨U, hU⟩ : ∃ U, W.putObj (w.heap.size + 1) (.loop { rec .ready none with state := .busy }) = U := ⟨_, rfl⟩
    have rU : U.heap[w.heap.size + 1]? = some (.loop { rec .ready none with state := .busy }) := by rw [← hU]; exact World.putObj_heap_same hin
    have dU : U.heap[w.heap.size]? = some (.deferred (some [])) := by rw [← hU]; exact (World.putObj_heap_other (by omega)).trans hd
    have kU : Kp W U := by rw [← hU]; exact hKb _ _ _ (by omega)
    have iU : I pre U := by rw [← hU]; exact hI.putObj _ hi (by omega) hr rfl
    have hbod := hbody (w.heap.size + 1) pre x U iU hlen
    rw [hU]
    refine wpIn_mono hbod ?_
    -- how a round ends, in whatever way
    have fin : ∀ (jump : Option Code) (X : World), KeepsFrom w.heap.size U X →
        (Instr.endRound (w.heap.size + 1) jump).run P X = .ok (.bool jump.isNone) (X.putObj (w.heap.size + 1) (.loop (rec (if jump.isNone then .ready else .done) jump))) ∧
        X.heap[w.heap.size + 1]? = some (.loop { rec .ready none with state := .busy }) ∧
        (X.putObj (w.heap.size + 1) (.loop (rec (if jump.isNone then .ready else .done) jump))).heap[w.heap.size + 1]? = some (.loop (rec (if jump.isNone then .ready else .done) jump)) ∧
        (X.putObj (w.heap.size + 1) (.loop (rec (if jump.isNone then .ready else .done) jump))).heap[w.heap.size]? = some (.deferred (some [])) := fun jump X hk => by
      have rX := hk.same _ _ (by omega) rU rfl
      have := run_endRound (P := P) jump rX
      rw [hrec] at this rX ⊢
      exact ⟨this, rX, World.putObj_heap_same (Array.getElem?_eq_some_iff.1 rX).1, (World.putObj_heap_other (by omega)).trans (hk.same _ _ (Nat.le_refl _) dU rfl)⟩
    have out : ∀ (c : Code) (X : World), KeepsFrom w.heap.size U X → Ix c (pre ++ [x]) X → ∃ v W', (Instr.endRound (w.heap.size + 1) (some c)).run P X = .ok v W' ∧ ((Ending.returned v = .returned (.bool true) ∧ (I (pre ++ [x]) W' ∧ W'.heap[w.heap.size + 1]? = some (.loop (rec .ready none)) ∧ W'.heap[w.heap.size]? = some (.deferred (some []))) ∧ Kp W W') ∨ (Ending.returned v = .returned (.bool false) ∧ ∃ c, Ix c (pre ++ [x]) W' ∧ W'.heap[w.heap.size + 1]? = some (.loop (rec .done (some c))) ∧ W'.heap[w.heap.size]? = some (.deferred (some [])))) := fun c X hk hx => by
      obtain ⟨hr1, hr2, hr3, hr4⟩ := fin (some c) X hk
      exact ⟨_, _, hr1, .inr ⟨rfl, c, (hIx c).putObj _ hx (by omega) hr2 rfl, hr3, hr4⟩⟩
    rintro e a3 X hp
    cases e with
    | normal =>
      obtain ⟨hk, hkp, hx⟩ := hp
      obtain ⟨hr1, hr2, hr3, hr4⟩ := fin none X hk
      exact ⟨_, _, hr1, .inl ⟨rfl, ⟨hI.putObj _ hx (by omega) hr2 rfl, hr3, hr4⟩, hKt (hKt kU hkp) (hKb _ _ _ (by omega))⟩⟩
    | ret => exact out .ret X hp.1 hp.2
    | exit id => exact out (.exit id) X hp.1 hp.2
    | goto t => exact out (.goto t) X hp.1 hp.2
    | panic ch => exact hp.elim
    | outgrown => exact hp.elim
  · -- behind the iterator
    rintro e W2 ⟨⟨v, rfl⟩, (⟨xs, hS, hi, hr, hd⟩ | ⟨pre, hSp, c, hi, hr, hd⟩)⟩
    · refine ⟨none, _, by have := run_endLoop (P := P) hr (by rw [hrec]; simp); rw [hrec] at this; exact this, ?_⟩
      exact hdone _ xs _ (Nat.le_refl _) hS (hI.putObj _ hi (by omega) hr rfl) ((World.putObj_heap_other (by omega)).trans hd)
    · refine ⟨some c, _, by have := run_endLoop (P := P) hr (by rw [hrec]; simp); rw [hrec] at this; exact this, ?_⟩
      exact hstop _ c pre _ (Nat.le_refl _) hSp ((hIx c).putObj _ hi (by omega) hr rfl) ((World.putObj_heap_other (by omega)).trans hd)
end
end Go.Proofs.YtnglhfeialomgaaDoor
