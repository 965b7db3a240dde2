/- A frame by a predicate: nothing has turned but blocks of which P holds, and what is new. No program in sight. -/
import Derived.RangeFuncNested
import Derived.RangeFuncBound
import Derived.RangeFuncCalls
import Derived.RangeFuncLeaves
import Derived.Shelf.Lay
import Derived.Shelf.Strings.Prefix
import Derived.Shelf.Strings.Search3
import Derived.Shelf.Abstract
import Derived.Shelf.RegionOpen
import Derived.WalkKit
import Derived.OwnWalkIn
import Derived.TacticsInMore
import Derived.LoopNIn
import Derived.LoopIn
import Derived.Lib.ConvBytes
import Derived.Test.YtnglhfeialomgaaGreatDoorTz01
import Derived.Test.YtnglhfeialomgaaGreatDoorTz02
import Derived.Test.YtnglhfeialomgaaGreatDoorTz03
import Derived.Test.YtnglhfeialomgaaGreatDoorTz04
namespace Go.Proofs.YtnglhfeialomgaaGreatDoor
open Go.RowKit

/-- From w to w' nothing has turned but blocks of which P holds, and what is new. -/
structure FrP (P : Nat → Prop) (w w' : World) : Prop where
  os : w'.os = w.os
  tape : w'.tape = w.tape
  output : w'.output = w.output
  size : w.heap.size ≤ w'.heap.size
  block : ∀ k, k < w.heap.size → ¬ P k → w'.heap[k]? = w.heap[k]?
theorem FrP.refl (P : Nat → Prop) (w : World) : FrP P w w := ⟨rfl, rfl, rfl, Nat.le_refl _, fun _ _ _ => rfl⟩
theorem FrP.step {P : Nat → Prop} {S : List Nat} {a b c : World} (h : FrP P a b) (k : Fr S b c) (hS : ∀ x ∈ S, P x ∨ a.heap.size ≤ x) : FrP P a c :=
  ⟨k.os.trans h.os, k.tape.trans h.tape, k.output.trans h.output, Nat.le_trans h.size k.size, fun i hi hn =>
    (k.block i (Nat.lt_of_lt_of_le hi h.size) (fun hx => (hS i hx).elim hn (fun h' => absurd hi (Nat.not_lt.2 h')))).trans (h.block i hi hn)⟩
theorem FrP.trans {P Q : Nat → Prop} {a b c : World} (h : FrP P a b) (k : FrP Q b c) (hQ : ∀ x, Q x → P x ∨ a.heap.size ≤ x) : FrP P a c :=
  ⟨k.os.trans h.os, k.tape.trans h.tape, k.output.trans h.output, Nat.le_trans h.size k.size, fun i hi hn =>
    (k.block i (Nat.lt_of_lt_of_le hi h.size) (fun hx => (hQ i hx).elim hn (fun h' => absurd hi (Nat.not_lt.2 h')))).trans (h.block i hi hn)⟩
theorem FrP.below {B : Nat} {w w' : World} (h : FrP (B ≤ ·) w w') (hB : B ≤ w.heap.size) : Below B w w' := ⟨h.os, h.tape, h.output, h.size, fun k hk => h.block k (by omega) (by omega)⟩
theorem FrP.fr {P : Nat → Prop} {a w w' : World} (h0 : Fr [] a w) (h : FrP P w w') (hP : ∀ k, P k → a.heap.size ≤ k) : Fr [] a w' :=
  ⟨h.os.trans h0.os, h.tape.trans h0.tape, h.output.trans h0.output, Nat.le_trans h0.size h.size, fun k hk _ => (h.block k (Nat.lt_of_lt_of_le hk h0.size) (fun hp => by have := hP k hp; omega)).trans (h0.block k hk (by simp))⟩
theorem FrP.cell {P : Nat → Prop} {w w' : World} (h : FrP P w w') {p : Addr} {v : Value} (hk : w.cell? p = some v) (hn : ¬ P p.block) : w'.cell? p = some v :=
  (World.cell?_of_block (h.block p.block (block_lt_of_cell hk) hn)).trans hk
theorem Sl.frP {P : Nat → Prop} {w w' : World} {v : Value} {g : Nat} {xs : List Int} (h : Sl w v g xs) (hf : FrP P w w') (hg : xs = [] ∨ ¬ P g) : Sl w' v g xs := by
  rcases h with h | ⟨o, c, h0, h1, h2, h3⟩
  · exact .inl h
  · rcases hg with rfl | hg
    · exact .inr ⟨o, c, h0, h1, h2, fun i hi => absurd hi (by simp)⟩
    · exact .inr ⟨o, c, h0, h1, h2, fun i hi => hf.cell (h3 i hi) hg⟩
/-- Parts of which P held at w, and new ones. -/
def OrNew (P : Nat → Prop) (w : World) (k : Nat) : Prop := P k ∨ w.heap.size ≤ k
end Go.Proofs.YtnglhfeialomgaaGreatDoor
/- Trees of directories in memory. -/
namespace Go.Proofs.YtnglhfeialomgaaGreatDoor
open Go.RowKit

/-- A node's block; a directory's map has at most K entries. -/
def NodeIn (w : World) (g : Tr.G) (K b : Nat) : Prop := match g.ent b with
  | none => w.heap[b]? = some (.cells #[.map none, .int .i64 (g.nms b)] 56 (0, 0))
  | some m => w.heap[b]? = some (.cells #[.map (some (g.mb b)), .int .i64 (g.nms b)] 56 (0, 0)) ∧ SMap Tryz.prog 9 w (g.mb b) K m
/-- The tree's own blocks. -/
def TrP (tb : Nat) (g : Tr.G) (dom : Nat → Prop) (k : Nat) : Prop := k = tb ∨ dom k ∨ ∃ b, dom b ∧ (g.ent b).isSome = true ∧ g.mb b = k
/-- Block tb holds a tree; its nodes are those of dom. -/
structure TrS (w : World) (tb : Nat) (g : Tr.G) (dom : Nat → Prop) (K : Nat) : Prop where
  top : w.heap[tb]? = some (.cells #[.pointer (some ⟨g.root, 0, none⟩), .int .i64 g.many] 58 (0, 0))
  node : ∀ b, dom b → NodeIn w g K b
  rootD : dom g.root
  closed : ∀ d x c, dom d → Tr.kid g d x = some c → dom c
  mbs : ∀ b b', dom b → dom b' → (g.ent b).isSome = true → (g.ent b').isSome = true → g.mb b = g.mb b' → b = b'
  ok : Tr.OK g
  many : 0 ≤ g.many ∧ g.many ≤ 24
  nb : ∀ b, dom b → -(K : Int) ≤ g.nms b ∧ g.nms b ≤ K
section
variable {w w' : World} {tb K b : Nat} {g : Tr.G} {dom : Nat → Prop}
theorem NodeIn.file (h : NodeIn w g K b) (he : g.ent b = none) : w.heap[b]? = some (.cells #[.map none, .int .i64 (g.nms b)] 56 (0, 0)) := by
  unfold NodeIn at h
  rw [he] at h
  exact h
theorem NodeIn.dir (h : NodeIn w g K b) {m : Tr.Nme → Option Nat} (he : g.ent b = some m) : w.heap[b]? = some (.cells #[.map (some (g.mb b)), .int .i64 (g.nms b)] 56 (0, 0)) ∧ SMap Tryz.prog 9 w (g.mb b) K m := by
  unfold NodeIn at h
  rw [he] at h
  exact h
theorem NodeIn.obj (h : NodeIn w g K b) : ∃ v, w.heap[b]? = some (.cells #[v, .int .i64 (g.nms b)] 56 (0, 0)) := by
  cases he : g.ent b with
  | none => exact ⟨_, h.file he⟩
  | some m => exact ⟨_, (h.dir he).1⟩
theorem NodeIn.keep (h : NodeIn w g K b) (hb : w'.heap[b]? = w.heap[b]?) (hm : (g.ent b).isSome = true → w'.heap[g.mb b]? = w.heap[g.mb b]?) : NodeIn w' g K b := by
  unfold NodeIn at *
  cases he : g.ent b with
  | none => rw [he] at h; exact hb.trans h
  | some m =>
    rw [he] at h
    exact ⟨hb.trans h.1, h.2.keep (hm (by rw [he]; rfl))⟩
theorem TrS.lt (h : TrS w tb g dom K) {k : Nat} (hk : TrP tb g dom k) : k < w.heap.size := by
  rcases hk with rfl | hk | ⟨b, hb, hs, rfl⟩
  · exact lt_of_heap h.top
  · obtain ⟨v, hv⟩ := (h.node k hk).obj
    exact lt_of_heap hv
  · obtain ⟨m, hm⟩ := Option.isSome_iff_exists.1 hs
    exact ((h.node b hb).dir hm).2.lt
theorem TrS.frP {P : Nat → Prop} (h : TrS w tb g dom K) (hf : FrP P w w') (hn : ∀ k, TrP tb g dom k → ¬ P k) : TrS w' tb g dom K := by
  have hk : ∀ k, TrP tb g dom k → w'.heap[k]? = w.heap[k]? := fun k hk => hf.block k (h.lt hk) (hn k hk)
  exact ⟨(hk tb (.inl rfl)).trans h.top, fun b hb => (h.node b hb).keep (hk b (.inr (.inl hb))) (fun hs => hk _ (.inr (.inr ⟨b, hb, hs, rfl⟩))), h.rootD, h.closed, h.mbs, h.ok, h.many, h.nb⟩
theorem TrS.step (h : TrS w tb g dom K) (hf : Fr [] w w') : TrS w' tb g dom K := h.frP (P := fun _ => False) ((FrP.refl _ w).step hf (by simp)) (fun _ _ hp => hp)
/-- What is found is one of the nodes. -/
theorem TrS.found (h : TrS w tb g dom K) : ∀ (p : List Tr.Nme) (n c : Nat), dom n → Tr.fnd g n p = .ok c → dom c
  | [], n, c, hn, hf => by injection hf with hf; rw [← hf]; exact hn
  | x :: r, n, c, hn, hf => by
    obtain ⟨d, m, e, hd, hm, hx, hr⟩ := Tr.fnd_front (p := []) hf
    injection hd with hd
    subst hd
    exact h.found r e c (h.closed _ x e hn (by rw [Tr.kid_of hm]; exact hx)) hr
end
/-- What find hands back. -/
def fndV : Tr.Rs → Value
  | .ok c => .tuple #[.pointer (some ⟨c, 0, none⟩), .nilIface]
  | .err e => .tuple #[.pointer none, errV e]
end Go.Proofs.YtnglhfeialomgaaGreatDoor

/- A loop over an iterator that writes a cell of its own (the box of a variable that it has caught): what the caller says of its own memory must abide a store into that box. No program in sight. -/
namespace Go.Proofs.YtnglhfeialomgaaGreatDoor
open Go Go.RowKit

/-- It abides a store into the first cell of block b. -/
def Rewr {β : Type} (b : Nat) (I : β → World → Prop) : Prop := ∀ s W v, I s W → I s (W.setCell ⟨b, 0, none⟩ v)
/-- An iterator's contract: its box is block b; Bx tells what it reads. -/
def SeqW {α : Type} (F : Fence) (n : Nat) (P : Program) (g : Nat) (lb : Array Value) (enc : α → Value) (Kp : World → World → Prop) (b : Nat) (S Sp : List α → Prop) (N : Nat) (Bx : World → Prop) : Prop :=
  ∀ (l : Nat) (J Jx : List α → World → Prop) (W : World), Bx W → Rewr b J → Rewr b Jx →
    (∀ pre x W1, J pre W1 → pre.length < N → YieldAt F (n - 1) P l #[enc x] W1 fun e W' => (e = .returned (.bool true) ∧ J (pre ++ [x]) W' ∧ Kp W1 W') ∨ (e = .returned (.bool false) ∧ Jx (pre ++ [x]) W')) → J [] W →
    CallsIn F n P g (#[.func (.yield l) #[] #[]] ++ lb) W fun e W' => (∃ v, e = .returned v) ∧ ((∃ xs, S xs ∧ J xs W') ∨ ∃ pre, Sp pre ∧ Jx pre W')
theorem setCell_else {W : World} {b k : Nat} {o : Obj} (v : Value) (h : W.heap[k]? = some o) (hne : k ≠ b) : (W.setCell ⟨b, 0, none⟩ v).heap[k]? = some o := (Below.heap_setCell W ⟨b, 0, none⟩ v k hne).trans h
section
variable {F : Fence} {n : Nat} {P : Program}
theorem wpIn_rangeFunc_box {α : Type} {g : Operand} {p : Tmp} {assign body : Code} {Q : Exit → Act → World → Prop} {a : Act} {w : World}
    (hro : F.round = none) (h1 : 1 ≤ n) {gf : Nat} {lb : Array Value} (hg : a.eval g = .func (.func gf) #[] lb) (hFg : F.fn gf) (eg : ∀ args w, (callFunc gf args).run P w = .ok (.enter gf args) w)
    {enc : α → Value} {Kp : World → World → Prop} {b : Nat} {S Sp : List α → Prop} {N : Nat} {Bx : World → Prop} (hseq : SeqW F (n - 1) P gf lb enc Kp b S Sp N Bx) (hb : b < w.heap.size)
    (hBx : ∀ W, (∀ k, k < w.heap.size → W.heap[k]? = w.heap[k]?) → Bx W)
    (hKt : ∀ {A B C : World}, Kp A B → Kp B C → Kp A C) (hKb : ∀ (W : World) (l : Nat) (o : Obj), w.heap.size ≤ l → Kp W (W.putObj l o))
    (I : List α → World → Prop) (Ix : Code → List α → World → Prop) (hI : OwnFrom w.heap.size I) (hIx : ∀ c, OwnFrom w.heap.size (Ix c)) (hIw : Rewr b I) (hIxw : ∀ c, Rewr b (Ix c)) (h0 : I [] w) (a₁ : α → Act)
    (hassign : ∀ (l : Nat) (x : α) (W : World) (K : Act → World → Prop), K (a₁ x) W → assign.wpIn (F.inRound l) (n - 1 - 1) P (Exit.then K (fun _ _ _ => False)) { tmps := (#[p].zip #[enc x]).foldl (fun t (p, v) => t.setIfInBounds p v) a.tmps, defers := [] } W)
    (hbody : ∀ (l : Nat) (pre : List α) (x : α) (W : World), I pre W → pre.length < N → body.wpIn (F.inRound l) (n - 1 - 1) P (ownPostG w.heap.size Kp I Ix (pre ++ [x]) W) (a₁ x) W)
    (hdone : ∀ (D : Nat) (xs : List α) (W : World), w.heap.size ≤ D → S xs → I xs W → W.heap[D]? = some (.deferred (some [])) → Q .normal { a with defers := { target := .collected D, args := #[] } :: a.defers } W)
    (hstop : ∀ (D : Nat) (c : Code) (pre : List α) (W : World), w.heap.size ≤ D → Sp pre → Ix c pre W → W.heap[D]? = some (.deferred (some [])) → c.wpIn F n P Q { a with defers := { target := .collected D, args := #[] } :: a.defers } W) :
    (Code.rangeFunc g #[p] assign body).wpIn F n P Q a w := by
  refine wpIn_rangeFunc ?_
  intro fn hfn
  rw [hro]
  -- the loop's record lies at w.heap.size + 1, its book of deferred calls at w.heap.size
  obtain ⟨rec, hrec⟩ : ∃ rec : LoopState → Option Code → Loop, rec = fun st pe => { state := st, pending := pe, fn, tmps := a.tmps, params := #[p], assign, body, defers := w.heap.size } := ⟨_, rfl⟩
  obtain ⟨V, hV⟩ : ∃ V, (w.alloc (.deferred (some []))).alloc (.loop (rec .ready none)) = V := ⟨_, rfl⟩
  have sV : V.heap.size = w.heap.size + 2 := by rw [← hV]; simp
  have rV : V.heap[w.heap.size + 1]? = some (.loop (rec .ready none)) := by
    rw [← hV]
    have := World.alloc_heap_new (w.alloc (.deferred (some []))) (.loop (rec .ready none))
    rwa [World.size_alloc] at this
  have dV : V.heap[w.heap.size]? = some (.deferred (some [])) := by
    rw [← hV]
    exact (Below.heap_alloc _ _ _ (by simp)).trans (World.alloc_heap_new w _)
  have iV : I [] V := by rw [← hV]; exact hI.alloc _ (hI.alloc _ h0)
  have oV : ∀ k, k < w.heap.size → V.heap[k]? = w.heap[k]? := fun k hk => by
    rw [← hV]
    exact (Below.heap_alloc _ _ _ (by simp; omega)).trans (Below.heap_alloc _ _ _ hk)
  refine ⟨w.heap.size + 1, [{ target := .collected w.heap.size, args := #[] }], V, { target := .fn (.func gf) lb, args := #[.func (.yield (w.heap.size + 1)) #[] #[]] }, V, gf,
    #[.func (.yield (w.heap.size + 1)) #[] #[]] ++ lb, V, ?_, ?_, ?_, ?_, fun _ => h1, ?_⟩
  · rw [← hV, hrec]; exact run_enterLoop_outer _ _ _ _ _
  · simp only [resolve, hg]
    simp [go_sem]
  · intro f' hf'
    simp [Target.leads] at hf'
    subst hf'
    exact hFg
  · simp [invoke, go_sem, eg]
  have e1 : w.heap.size + 1 ≠ b := by omega
  have e2 : w.heap.size ≠ b := by omega
  refine (hseq (w.heap.size + 1)
    (fun pre W => I pre W ∧ W.heap[w.heap.size + 1]? = some (.loop (rec .ready none)) ∧ W.heap[w.heap.size]? = some (.deferred (some [])))
    (fun pre W => ∃ c, Ix c pre W ∧ W.heap[w.heap.size + 1]? = some (.loop (rec .done (some c))) ∧ W.heap[w.heap.size]? = some (.deferred (some [])))
    V (hBx V oV) (fun s W v ⟨h, r, d⟩ => ⟨hIw s W v h, setCell_else v r e1, setCell_else v d e2⟩) (fun s W v ⟨c, h, r, d⟩ => ⟨c, hIxw c s W v h, setCell_else v r e1, setCell_else v d e2⟩) ?_ ⟨iV, rV, dV⟩).mono ?_
  · -- a round
    rintro pre x W ⟨hi, hr, hd⟩ hlen
    have hin := (Array.getElem?_eq_some_iff.1 hr).1
    have hy := run_yield (P := P) (args := #[enc x]) hr (by rw [hrec]; rfl)
    rw [hrec] at hy
    refine ⟨fn, _, assign, body, hy, roundIn_of_wpIn hfn ?_⟩
    refine hassign (w.heap.size + 1) x W _ ?_
    refine ⟨_, run_beginRound hr (by rw [hrec]), ?_⟩
    -- the record is busy while the body runs
    obtain ⟨U, hU⟩ : ∃ U, W.putObj (w.heap.size + 1) (.loop { rec .ready none with state := .busy }) = U := ⟨_, rfl⟩
    have rU : U.heap[w.heap.size + 1]? = some (.loop { rec .ready none with state := .busy }) := by rw [← hU]; exact World.putObj_heap_same hin
    have dU : U.heap[w.heap.size]? = some (.deferred (some [])) := by rw [← hU]; exact (World.putObj_heap_other (by omega)).trans hd
    have kU : Kp W U := by rw [← hU]; exact hKb _ _ _ (by omega)
    have iU : I pre U := by rw [← hU]; exact hI.putObj _ hi (by omega) hr rfl
    have hbod := hbody (w.heap.size + 1) pre x U iU hlen
    rw [hU]
    refine wpIn_mono hbod ?_
    -- how a round ends, in whatever way
    have fin : ∀ (jump : Option Code) (X : World), KeepsFrom w.heap.size U X →
        (Instr.endRound (w.heap.size + 1) jump).run P X = .ok (.bool jump.isNone) (X.putObj (w.heap.size + 1) (.loop (rec (if jump.isNone then .ready else .done) jump))) ∧
        X.heap[w.heap.size + 1]? = some (.loop { rec .ready none with state := .busy }) ∧
        (X.putObj (w.heap.size + 1) (.loop (rec (if jump.isNone then .ready else .done) jump))).heap[w.heap.size + 1]? = some (.loop (rec (if jump.isNone then .ready else .done) jump)) ∧
        (X.putObj (w.heap.size + 1) (.loop (rec (if jump.isNone then .ready else .done) jump))).heap[w.heap.size]? = some (.deferred (some [])) := fun jump X hk => by
      have rX := hk.same _ _ (by omega) rU rfl
      have := run_endRound (P := P) jump rX
      rw [hrec] at this rX ⊢
      exact ⟨this, rX, World.putObj_heap_same (Array.getElem?_eq_some_iff.1 rX).1, (World.putObj_heap_other (by omega)).trans (hk.same _ _ (Nat.le_refl _) dU rfl)⟩
    have out : ∀ (c : Code) (X : World), KeepsFrom w.heap.size U X → Ix c (pre ++ [x]) X → ∃ v W', (Instr.endRound (w.heap.size + 1) (some c)).run P X = .ok v W' ∧ ((Ending.returned v = .returned (.bool true) ∧ (I (pre ++ [x]) W' ∧ W'.heap[w.heap.size + 1]? = some (.loop (rec .ready none)) ∧ W'.heap[w.heap.size]? = some (.deferred (some []))) ∧ Kp W W') ∨ (Ending.returned v = .returned (.bool false) ∧ ∃ c, Ix c (pre ++ [x]) W' ∧ W'.heap[w.heap.size + 1]? = some (.loop (rec .done (some c))) ∧ W'.heap[w.heap.size]? = some (.deferred (some [])))) := fun c X hk hx => by
      obtain ⟨hr1, hr2, hr3, hr4⟩ := fin (some c) X hk
      exact ⟨_, _, hr1, .inr ⟨rfl, c, (hIx c).putObj _ hx (by omega) hr2 rfl, hr3, hr4⟩⟩
    rintro e a3 X hp
    cases e with
    | normal =>
      obtain ⟨hk, hkp, hx⟩ := hp
      obtain ⟨hr1, hr2, hr3, hr4⟩ := fin none X hk
      exact ⟨_, _, hr1, .inl ⟨rfl, ⟨hI.putObj _ hx (by omega) hr2 rfl, hr3, hr4⟩, hKt (hKt kU hkp) (hKb _ _ _ (by omega))⟩⟩
    | ret => exact out .ret X hp.1 hp.2
    | exit id => exact out (.exit id) X hp.1 hp.2
    | goto t => exact out (.goto t) X hp.1 hp.2
    | panic ch => exact hp.elim
    | outgrown => exact hp.elim
  · -- behind the iterator
    rintro e W2 ⟨⟨v, rfl⟩, (⟨xs, hS, hi, hr, hd⟩ | ⟨pre, hSp, c, hi, hr, hd⟩)⟩
    · refine ⟨none, _, by have := run_endLoop (P := P) hr (by rw [hrec]; simp); rw [hrec] at this; exact this, ?_⟩
      exact hdone _ xs _ (Nat.le_refl _) hS (hI.putObj _ hi (by omega) hr rfl) ((World.putObj_heap_other (by omega)).trans hd)
    · refine ⟨some c, _, by have := run_endLoop (P := P) hr (by rw [hrec]; simp); rw [hrec] at this; exact this, ?_⟩
      exact hstop _ c pre _ (Nat.le_refl _) hSp ((hIx c).putObj _ hi (by omega) hr rfl) ((World.putObj_heap_other (by omega)).trans hd)
end
end Go.Proofs.YtnglhfeialomgaaGreatDoor

/- What the packages of this seat call in Go's library, off the shelf: strings.HasPrefix, strings.Index at one byte. -/
namespace Go.Proofs
open Go.Shelf
shelf_lay Lays.n99 Nm 99 at Tryz as Tryz.lays99
shelf_lay Lays.n143 Nm 143 at Tryz as Tryz.lays143
namespace YtnglhfeialomgaaGreatDoor
open Go.RowKit Go.Lib
theorem has_prefix (s p : ByteArray) (w : World) :
    Calls Tryz.prog 70 #[.string s, .string p] w fun e w' => e = .returned (.bool (Lib.hasPrefix s.data.toList p.data.toList)) ∧ w' = w := Any.strings_HasPrefix Tryz.lays99 s p w
theorem index_one (s : ByteArray) (c : UInt8) (w : World) :
    Calls Tryz.prog 99 #[.string s, .string ⟨#[c]⟩] w fun e w' => e = .returned (.int .i64 (Lib.indexByte s.data.toList c)) ∧ w' = w := Any.strings_Index_one Tryz.lays143 s c w
end YtnglhfeialomgaaGreatDoor
end Go.Proofs

/- strings.SplitSeq at a slash, by Go's text of it. -/
namespace Go.Proofs.YtnglhfeialomgaaGreatDoor
open Go.RowKit Go.Shelf
attribute [local go_sem] Oper.semAt_some

/-- The boxes of strings.splitSeq, from block b on, lie as they lay. -/
def Kb (b : Nat) (w w' : World) : Prop := ∀ k, b ≤ k → k < b + 3 → w'.heap[k]? = w.heap[k]?
theorem Kb.cell {b : Nat} {w w' : World} (h : Kb b w w') (k : Nat) (h1 : b ≤ k) (h2 : k < b + 3) {v : Value} (hc : w.cell? ⟨k, 0, none⟩ = some v) : w'.cell? ⟨k, 0, none⟩ = some v := (World.cell?_of_block (h k h1 h2)).trans hc
theorem Kb.trans {b : Nat} {x y z : World} (h : Kb b x y) (k : Kb b y z) : Kb b x z := fun i h1 h2 => (k i h1 h2).trans (h i h1 h2)
def strLen : Option Value → Nat
  | some (.string s) => s.size
  | _ => 0
/-- What splitSeq's own boxes hold. -/
structure SpB (b : Nat) (W : World) (rest : List UInt8) : Prop where
  b0 : W.heap[b]? = some (.cells #[.string (Pa.mk rest)] 9 (0, 0))
  c1 : W.cell? ⟨b + 1, 0, none⟩ = some (.string ⟨#[47]⟩)
  c2 : W.cell? ⟨b + 2, 0, none⟩ = some (.int .i64 0)
theorem SpB.c0 {b : Nat} {W : World} {rest : List UInt8} (h : SpB b W rest) : W.cell? ⟨b, 0, none⟩ = some (.string (Pa.mk rest)) := by rw [cell_of_row _ _ _ _ _ _ h.b0]; rfl
theorem SpB.keep {b : Nat} {W W' : World} {rest : List UInt8} (h : SpB b W rest) (hk : Kb b W W') : SpB b W' rest := ⟨(hk b (by omega) (by omega)).trans h.b0, hk.cell (b + 1) (by omega) (by omega) h.c1, hk.cell (b + 2) (by omega) (by omega) h.c2⟩
theorem SpB.set {b : Nat} {W : World} {rest : List UInt8} (h : SpB b W rest) (r : List UInt8) : SpB b (W.setCell ⟨b, 0, none⟩ (.string (Pa.mk r))) r :=
  ⟨set_block h.b0 _, (World.cell?_of_block (Below.heap_setCell W ⟨b, 0, none⟩ _ (b + 1) (by simp))).trans h.c1, (World.cell?_of_block (Below.heap_setCell W ⟨b, 0, none⟩ _ (b + 2) (by simp))).trans h.c2⟩
theorem idx_cut {rest : List UInt8} {i : Nat} (h1 : 47 ∉ rest.take i) (h2 : rest = rest.take i ++ 47 :: rest.drop (i + 1)) : Pa.cut rest = rest.take i :: Pa.cut (rest.drop (i + 1)) := by
  conv => lhs; rw [h2]
  exact Pa.cut_some _ _ h1
theorem mk_take (l : List UInt8) (i : Nat) : (Pa.mk l).extract 0 i = Pa.mk (l.take i) := by rw [Lib.extract_eq, Pa.mk_list]; simp [Pa.mk]
theorem mk_drop (l : List UInt8) (i : Nat) : (Pa.mk l).extract i l.length = Pa.mk (l.drop i) := by
  rw [Lib.extract_eq, Pa.mk_list, List.take_of_length_le (by simp)]
  rfl
set_option maxRecDepth 100000 in
set_option maxHeartbeats 4000000 in
theorem split_seq (n : Nat) (hn : 2 ≤ n) (b : Nat) (l0 : List UInt8) (hl : l0.length ≤ 1000) :
    SeqW Fence.wide n Tryz.prog 97 #[.pointer (some ⟨b + 1, 0, none⟩), .pointer (some ⟨b, 0, none⟩), .pointer (some ⟨b + 2, 0, none⟩)] (fun l => .string (Pa.mk l)) (Kb b) b (fun xs => xs = Pa.cut l0) (fun ys => ys <+: Pa.cut l0) (Pa.cut l0).length (fun W => SpB b W l0) := by
  intro l J Jx W hB hJ hJx hY h0
  have HB := Lib.hid hB
  have HJ := Lib.hid hJ
  have HJx := Lib.hid hJx
  have hn0 : 1 ≤ n := by omega
  have hn1 : 1 ≤ n - 1 := by omega
  clear hB hJ hJx
  refine callsIn_of_wp Tryz.func97 rfl trivial ?_ rfl
  simp only [Tryz.ntmps97, List.size_toArray, List.length_cons, List.length_nil, Nat.reduceAdd, Nat.reduceSub, Array.replicate_succ, Array.replicate_zero, List.push_toArray, List.append_toArray, List.nil_append, List.cons_append]
  obtain ⟨-, c1, c2⟩ := HB.out
  have c0 := HB.out.c0
  gi_wp2
  gi_loopw [7] (fun i wr => ∃ pre rest, Hid (pre ++ Pa.cut rest = Pa.cut l0) ∧ Hid (rest.length ≤ 1000) ∧ J pre wr ∧ Hid (SpB b wr rest)) (fun i wr => strLen (wr.cell? ⟨b, 0, none⟩))
  case atStart => exact ⟨[], l0, rfl, hl, h0, HB.out⟩
  case round =>
    obtain ⟨pre, rest, hp, hr, hJs, hb⟩ := hrel
    obtain ⟨-, c1, c2⟩ := hb.out
    have c0 := hb.out.c0
    clear HB c0 c1 c2 h0
    obtain ⟨-, c1, c2⟩ := hb.out
    have c0 := hb.out.c0
    have hlt : pre.length < (Pa.cut l0).length := by
      rw [← hp.out, List.length_append]
      have : 0 < (Pa.cut rest).length := by
        rcases Nat.eq_zero_or_pos (Pa.cut rest).length with h | h
        · exact absurd (List.eq_nil_of_length_eq_zero h) (Pa.cut_ne rest)
        · exact h
      omega
    by_cases hx : Lib.indexByte rest 47 = -1
    · have hc := Pa.cut_none rest (Pa.idx_none rest hx)
      have HP := Lib.hid (hp.out.symm.trans (by rw [hc]))
      have HX : Hid (Lib.indexByte (Pa.mk rest).data.toList 47 = -1) := by show _ = _; rw [Pa.mk_list]; exact hx
      obtain ⟨fn, tmps, assign, body, hy, hR⟩ := hY pre rest wr hJs hlt
      clear hx hc hp hY HJ HJx hJs hlt
      gi_wp2_with (refine ⟨trivial, ?_⟩; gi_at_call 99; refine (callsIn_wide.2 (index_one _ _ _)).mono ?_; rw [HX.out]; rintro e w3 ⟨rfl, rfl⟩)
      refine hR.mono ?_
      rintro e W3 (⟨rfl, hJ3, hk3⟩ | ⟨rfl, hJx3⟩)
      · gi_wp2
        go_end0
        exact ⟨⟨_, rfl⟩, .inl ⟨_, HP.out.symm, hJ3⟩⟩
      · gi_wp2
        go_end0
        exact ⟨⟨_, rfl⟩, .inr ⟨_, by rw [HP.out]; exact List.prefix_refl _, hJx3⟩⟩
    · obtain ⟨i, hi, hil, hn47, he⟩ := Pa.idx_some rest hx
      have hcut := idx_cut hn47 he
      have hP1 : pre ++ rest.take i :: Pa.cut (rest.drop (i + 1)) = Pa.cut l0 := by rw [← hcut]; exact hp.out
      have HP := Lib.hid hP1
      have HX : Hid (Lib.indexByte (Pa.mk rest).data.toList 47 = (i : Int)) := by show _ = _; rw [Pa.mk_list]; exact hi
      obtain ⟨fn, tmps, assign, body, hy, hR⟩ := hY pre (rest.take i) wr hJs hlt
      have hsz := Pa.mk_size rest
      have hr' := hr.out
      rw [← mk_take] at hy
      have HD := Lib.hid (mk_drop rest (i + 1))
      rw [← hsz] at hil hr' HD
      have HRL := Lib.hid hsz
      generalize hm : Pa.mk rest = m at *
      have HM := Lib.hid hm
      clear hx hi hn47 he hcut hP1 hp hY hJs hlt hsz hm hr
      have hi0 : ¬ ((i : Int) < 0) := by omega
      have hw0 : IntKind.i64.wrap (i : Int) = i := IntWalk.i64_in _ (by omega)
      have hw1 : IntKind.i64.wrap ((i : Int) + 1) = (i : Int) + 1 := IntWalk.i64_in _ (by omega)
      have hi1 : (i : Int) ≤ m.size := by omega
      have hi2 : (i : Int) + 1 ≤ m.size := by omega
      have hi3 : (0 : Int) ≤ i := by omega
      have hi4 : (0 : Int) ≤ (i : Int) + 1 := by omega
      gi_wp2_with (refine ⟨trivial, ?_⟩; gi_at_call 99; refine (callsIn_wide.2 (index_one _ _ _)).mono ?_; rw [HX.out]; rintro e w3 ⟨rfl, rfl⟩)
      refine hR.mono ?_
      rintro e W3 (⟨rfl, hJ3, hk3⟩ | ⟨rfl, hJx3⟩)
      · have hb3 := hb.out.keep hk3
        have HB3 := Lib.hid hb3
        obtain ⟨-, d1, d2⟩ := hb3
        have d0 := HB3.out.c0
        have d3 := free_block HB3.out.b0 0
        rw [HM.out] at d0
        have HC0 := Lib.hid hb.out.c0
        clear hb hk3 c0 c1 c2 hR hy
        gi_wp2
        rw [HD.out]
        go_roundw
        case rel => exact ⟨_, _, by show _ = _; rw [List.append_assoc]; exact HP.out, by show _ ≤ _; rw [List.length_drop, ← HRL.out]; omega, HJ.out _ _ _ hJ3, HB3.out.set _⟩
        case measure =>
          rw [(HB3.out.set _).c0, HC0.out]
          have hl := HRL.out
          simp only [strLen, Pa.mk_size, List.length_drop]
          omega
      · gi_wp2
        refine bodyPost_ret (results_none rfl _ _ _) rfl ?_
        exact ⟨⟨_, rfl⟩, .inr ⟨_, ⟨_, by rw [List.append_assoc]; exact HP.out⟩, hJx3⟩⟩
end Go.Proofs.YtnglhfeialomgaaGreatDoor

/- strings.SplitSeq's iterator as a value; path.Name. -/
namespace Go.Proofs.YtnglhfeialomgaaGreatDoor
open Go.RowKit

theorem split_make (s : ByteArray) (w : World) :
    Calls Tryz.prog 71 #[.string s, .string ⟨#[47]⟩] w fun e w' => e = .returned (.func (.func 97) #[] #[.pointer (some ⟨w.heap.size + 1, 0, none⟩), .pointer (some ⟨w.heap.size, 0, none⟩), .pointer (some ⟨w.heap.size + 2, 0, none⟩)]) ∧
      w' = ((w.alloc (.cells #[.string s] 9)).alloc (.cells #[.string ⟨#[47]⟩] 9)).alloc (.cells #[.int .i64 0] 3) := by
  go_enter Tryz.func71, Tryz.ntmps71
  go_wp2
  go_ret
  exact ⟨rfl, rfl⟩
/-- A byte of a text, as a number. -/
def bt (s : ByteArray) (j : Nat) : Int := ((s.data.toList.getD j 0).toNat : Nat)
def low (x : Int) : Prop := 97 ≤ x ∧ x ≤ 122
theorem name_of {s : ByteArray} (h : (1 : Int) ≤ s.size ∧ (s.size : Int) ≤ 4) (ha : ∀ j, j < s.size → low (bt s j)) : Pa.IsName s.data.toList := by
  have e := Lib.size_eq s
  refine ⟨by omega, by omega, fun b hb => ?_⟩
  obtain ⟨j, hj, rfl⟩ := List.getElem_of_mem hb
  have := ha j (by omega)
  unfold low bt at this
  rw [List.getD_eq_getElem?_getD, List.getElem?_eq_getElem hj] at this
  simp only [Option.getD_some] at this
  omega
theorem not_name_of {s : ByteArray} {j : Nat} (hj : j < s.size) (h : ¬ low (bt s j)) : ¬ Pa.IsName s.data.toList := fun hn => h (by
  have e := Lib.size_eq s
  have hj' : j < s.data.toList.length := by omega
  have := hn.2.2 s.data.toList[j] (List.getElem_mem _)
  unfold low bt
  rw [List.getD_eq_getElem?_getD, List.getElem?_eq_getElem hj']
  simp only [Option.getD_some]
  omega)
theorem bytes_fr (w : World) (e : TypeId) (s : ByteArray) : Fr [] w (Lib.bytesWorld w e s) := ⟨rfl, rfl, rfl, by rw [Lib.bytesWorld_size]; omega, fun k hk _ => Lib.bytesWorld_at_old w e s k hk⟩
set_option maxRecDepth 100000 in
set_option maxHeartbeats 2000000 in
theorem pa_Name (s : ByteArray) (w : World) :
    Calls Tryz.prog 72 #[.string s] w fun e w' => e = .returned (.bool (decide (Pa.IsName s.data.toList))) ∧ Fr [] w w' := by
  by_cases hw : (1 : Int) ≤ s.size ∧ (s.size : Int) ≤ 4
  · have HW := Lib.hid (within_is s.size 1 4 true w (decide_eq_true hw))
    have hcv := Lib.run_convert_string_bytes (P := Tryz.prog) w 9 148 5 s Tryz.underlying9 Tryz.underlying148 Tryz.underlying5
    have HC : Hid (∀ j, j < s.size → (Lib.bytesWorld w 5 s).cell? ⟨w.heap.size, j, none⟩ = some (.int .u8 (bt s j))) := fun j hj => Lib.bytesWorld_cell w 5 s j hj
    have HF := Lib.hid (bytes_fr w 5 s)
    generalize Lib.bytesWorld w 5 s = W at *
    go_enter Tryz.func72, Tryz.ntmps72
    go_wp2_with (go_at_call 86; (with_reducible refine useC HW.out ?_); rintro e w ⟨rfl, rfl⟩)
    go_loop [12] (fun i => ∃ k : Nat, k ≤ s.size ∧ i = .int .i64 k ∧ Hid (∀ j, j < k → low (bt s j))) (fun i => s.size - (intOf i).toNat)
    case atStart => exact ⟨0, Nat.zero_le _, rfl, fun j hj => absurd hj (by omega)⟩
    case round =>
      obtain ⟨k, hk, rfl, hA⟩ := hrel
      by_cases hlt : k < s.size
      · have q := HC.out k hlt
        have k0 : (0 : Int) ≤ k := by omega
        have k1 : (k : Int) < s.size := by omega
        have HB : Hid (∀ x, bt s k = x → ¬ low x → ¬ Pa.IsName s.data.toList) := fun x hx hn => not_name_of hlt (by rw [hx]; exact hn)
        have HG : Hid (∀ x, bt s k = x → low x → ∀ j, j < k + 1 → low (bt s j)) := fun x hx hn j hj => by
          rcases Nat.lt_or_ge j k with h | h
          · exact hA.out j h
          · have : j = k := by omega
            subst this; rw [hx]; exact hn
        obtain ⟨x, hx⟩ : ∃ x, bt s k = x := ⟨_, rfl⟩
        rw [hx] at q
        have HX := Lib.hid hx
        clear hx HC hA
        by_cases h1 : x < 97
        · go_wp2
          go_ret
          exact ⟨by rw [decide_eq_false (HB.out x HX.out (fun h => by have := h.1; omega))]; rfl, HF.out⟩
        · by_cases h2 : 122 < x
          · go_wp2
            go_ret
            exact ⟨by rw [decide_eq_false (HB.out x HX.out (fun h => by have := h.2; omega))]; rfl, HF.out⟩
          · have HL : Hid (low x) := ⟨by omega, by omega⟩
            go_wp2
            go_round
            case rel => exact ⟨k + 1, by omega, by go_num, HG.out x HX.out HL.out⟩
            case measure => (simp [intOf]; try omega)
      · have n1 : ¬ (k : Int) < s.size := by omega
        have HN := Lib.hid (name_of hw (fun j hj => hA.out j (by omega)))
        clear hA HC
        go_wp2
        go_ret
        exact ⟨by rw [decide_eq_true HN.out]; rfl, HF.out⟩
  · have HW := Lib.hid (within_is s.size 1 4 false w (decide_eq_false hw))
    have hn : ¬ Pa.IsName s.data.toList := fun h => hw (by have := h.1; have := h.2.1; rw [← Lib.size_eq] at *; omega)
    go_enter Tryz.func72, Tryz.ntmps72
    go_wp2_with (go_at_call 86; (with_reducible refine useC HW.out ?_); rintro e w ⟨rfl, rfl⟩)
    go_ret
    exact ⟨by rw [decide_eq_false hn]; rfl, Fr.refl _ _⟩
end Go.Proofs.YtnglhfeialomgaaGreatDoor
