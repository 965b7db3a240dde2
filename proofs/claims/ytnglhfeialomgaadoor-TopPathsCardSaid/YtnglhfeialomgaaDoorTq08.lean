/- Trees of directories in memory. -/
import Derived.RangeFuncNested
import Derived.RangeFuncBound
import Derived.RangeFuncCalls
import Derived.RangeFuncLeaves
import Derived.Shelf.Lay
import Derived.Shelf.Strings.Prefix
import Derived.Shelf.Strings.Search3
import Derived.Test.YtnglhfeialomgaaDoorTq01
import Derived.Test.YtnglhfeialomgaaDoorTq04
import Derived.Test.YtnglhfeialomgaaDoorTq07
namespace Go.Proofs.YtnglhfeialomgaaDoor
open Go.RowKit

/-- A node's block; a directory's map has at most K entries. -/
def NodeIn (w : World) (g : Tr.G) (K b : Nat) : Prop := match g.ent b with
  | none => w.heap[b]? = some (.cells #[.map none, .int .i64 (g.nms b)] 51 (0, 0))
  | some m => w.heap[b]? = some (.cells #[.map (some (g.mb b)), .int .i64 (g.nms b)] 51 (0, 0)) ∧ SMap Tryd.prog 9 w (g.mb b) K m
/-- The tree's own blocks. -/
def TrP (tb : Nat) (g : Tr.G) (dom : Nat → Prop) (k : Nat) : Prop := k = tb ∨ dom k ∨ ∃ b, dom b ∧ (g.ent b).isSome = true ∧ g.mb b = k
/-- Block tb holds a tree; its nodes are those of dom. -/
structure TrS (w : World) (tb : Nat) (g : Tr.G) (dom : Nat → Prop) (K : Nat) : Prop where
  top : w.heap[tb]? = some (.cells #[.pointer (some ⟨g.root, 0, none⟩), .int .i64 g.many] 54 (0, 0))
  node : ∀ b, dom b → NodeIn w g K b
  rootD : dom g.root
  closed : ∀ d x c, dom d → Tr.kid g d x = some c → dom c
  mbs : ∀ b b', dom b → dom b' → (g.ent b).isSome = true → (g.ent b').isSome = true → g.mb b = g.mb b' → b = b'
  ok : Tr.OK g
  many : 0 ≤ g.many ∧ g.many ≤ 24
  nb : ∀ b, dom b → -(K : Int) ≤ g.nms b ∧ g.nms b ≤ K
section
variable {w w' : World} {tb K b : Nat} {g : Tr.G} {dom : Nat → Prop}
theorem NodeIn.file (h : NodeIn w g K b) (he : g.ent b = none) : w.heap[b]? = some (.cells #[.map none, .int .i64 (g.nms b)] 51 (0, 0)) := by
  unfold NodeIn at h
  rw [he] at h
  exact h
theorem NodeIn.dir (h : NodeIn w g K b) {m : Tr.Nme → Option Nat} (he : g.ent b = some m) : w.heap[b]? = some (.cells #[.map (some (g.mb b)), .int .i64 (g.nms b)] 51 (0, 0)) ∧ SMap Tryd.prog 9 w (g.mb b) K m := by
  unfold NodeIn at h
  rw [he] at h
  exact h
theorem NodeIn.obj (h : NodeIn w g K b) : ∃ v, w.heap[b]? = some (.cells #[v, .int .i64 (g.nms b)] 51 (0, 0)) := by
  cases he : g.ent b with
  | none => exact ⟨_, h.file he⟩
  | some m => exact ⟨_, (h.dir he).1⟩
theorem NodeIn.keep (h : NodeIn w g K b) (hb : w'.heap[b]? = w.heap[b]?) (hm : (g.ent b).isSome = true → w'.heap[g.mb b]? = w.heap[g.mb b]?) : NodeIn w' g K b := by
  unfold NodeIn at *
  cases he : g.ent b with
  | none => rw [he] at h; exact hb.trans h
  | some m =>
    rw [he] at h
    exact ⟨hb.trans h.1, h.2.keep (hm (by rw [he]; rfl))⟩
theorem TrS.lt (h : TrS w tb g dom K) {k : Nat} (hk : TrP tb g dom k) : k < w.heap.size := by
  rcases hk with rfl | hk | ⟨b, hb, hs, rfl⟩
  · exact lt_of_heap h.top
  · obtain ⟨v, hv⟩ := (h.node k hk).obj
    exact lt_of_heap hv
  · obtain ⟨m, hm⟩ := Option.isSome_iff_exists.1 hs
    exact ((h.node b hb).dir hm).2.lt
theorem TrS.frP {P : Nat → Prop} (h : TrS w tb g dom K) (hf : FrP P w w') (hn : ∀ k, TrP tb g dom k → ¬ P k) : TrS w' tb g dom K := by
  have hk : ∀ k, TrP tb g dom k → w'.heap[k]? = w.heap[k]? := fun k hk => hf.block k (h.lt hk) (hn k hk)
  exact ⟨(hk tb (.inl rfl)).trans h.top, fun b hb => (h.node b hb).keep (hk b (.inr (.inl hb))) (fun hs => hk _ (.inr (.inr ⟨b, hb, hs, rfl⟩))), h.rootD, h.closed, h.mbs, h.ok, h.many, h.nb⟩
theorem TrS.step (h : TrS w tb g dom K) (hf : Fr [] w w') : TrS w' tb g dom K := h.frP (P := fun _ => False) ((FrP.refl _ w).step hf (by simp)) (fun _ _ hp => hp)
/-- What is found is one of the nodes. -/
theorem TrS.found (h : TrS w tb g dom K) : ∀ (p : List Tr.Nme) (n c : Nat), dom n → Tr.fnd g n p = .ok c → dom c
  | [], n, c, hn, hf => by injection hf with hf; rw [← hf]; exact hn
  | x :: r, n, c, hn, hf => by
    obtain ⟨d, m, e, hd, hm, hx, hr⟩ := Tr.fnd_front (p := []) hf
    injection hd with hd
    subst hd
    exact h.found r e c (h.closed _ x e hn (by rw [Tr.kid_of hm]; exact hx)) hr
end
/-- What find hands back. -/
def fndV : Tr.Rs → Value
  | .ok c => .tuple #[.pointer (some ⟨c, 0, none⟩), .nilIface]
  | .err e => .tuple #[.pointer none, errV e]
end Go.Proofs.YtnglhfeialomgaaDoor
/- A loop over an iterator that writes a cell of its own (the box of a variable that it has caught): what the caller says of its own memory must abide a store into that box. No program in sight. -/
namespace Go.Proofs.YtnglhfeialomgaaDoor
open Go Go.RowKit

/-- It abides a store into the first cell of block b. -/
def Rewr {β : Type} (b : Nat) (I : β → World → Prop) : Prop := ∀ s W v, I s W → I s (W.setCell ⟨b, 0, none⟩ v)
/-- An iterator's contract: its box is block b; Bx tells what it reads. -/
def SeqW {α : Type} (F : Fence) (n : Nat) (P : Program) (g : Nat) (lb : Array Value) (enc : α → Value) (Kp : World → World → Prop) (b : Nat) (S Sp : List α → Prop) (N : Nat) (Bx : World → Prop) : Prop :=
  ∀ (l : Nat) (J Jx : List α → World → Prop) (W : World), Bx W → Rewr b J → Rewr b Jx →
    (∀ pre x W1, J pre W1 → pre.length < N → YieldAt F (n - 1) P l #[enc x] W1 fun e W' => (e = .returned (.bool true) ∧ J (pre ++ [x]) W' ∧ Kp W1 W') ∨ (e = .returned (.bool false) ∧ Jx (pre ++ [x]) W')) → J [] W →
    CallsIn F n P g (#[.func (.yield l) #[] #[]] ++ lb) W fun e W' => (∃ v, e = .returned v) ∧ ((∃ xs, S xs ∧ J xs W') ∨ ∃ pre, Sp pre ∧ Jx pre W')
theorem setCell_else {W : World} {b k : Nat} {o : Obj} (v : Value) (h : W.heap[k]? = some o) (hne : k ≠ b) : (W.setCell ⟨b, 0, none⟩ v).heap[k]? = some o := (Below.heap_setCell W ⟨b, 0, none⟩ v k hne).trans h
section
variable {F : Fence} {n : Nat} {P : Program}
theorem wpIn_rangeFunc_box {α : Type} {g : Operand} {p : Tmp} {assign body : Code} {Q : Exit → Act → World → Prop} {a : Act} {w : World}
    (hro : F.round = none) (h1 : 1 ≤ n) {gf : Nat} {lb : Array Value} (hg : a.eval g = .func (.func gf) #[] lb) (hFg : F.fn gf) (eg : ∀ args w, (callFunc gf args).run P w = .ok (.enter gf args) w)
    {enc : α → Value} {Kp : World → World → Prop} {b : Nat} {S Sp : List α → Prop} {N : Nat} {Bx : World → Prop} (hseq : SeqW F (n - 1) P gf lb enc Kp b S Sp N Bx) (hb : b < w.heap.size)
    (hBx : ∀ W, (∀ k, k < w.heap.size → W.heap[k]? = w.heap[k]?) → Bx W)
    (hKt : ∀ {A B C : World}, Kp A B → Kp B C → Kp A C) (hKb : ∀ (W : World) (l : Nat) (o : Obj), w.heap.size ≤ l → Kp W (W.putObj l o))
    (I : List α → World → Prop) (Ix : Code → List α → World → Prop) (hI : OwnFrom w.heap.size I) (hIx : ∀ c, OwnFrom w.heap.size (Ix c)) (hIw : Rewr b I) (hIxw : ∀ c, Rewr b (Ix c)) (h0 : I [] w) (a₁ : α → Act)
    (hassign : ∀ (l : Nat) (x : α) (W : World) (K : Act → World → Prop), K (a₁ x) W → assign.wpIn (F.inRound l) (n - 1 - 1) P (Exit.then K (fun _ _ _ => False)) { tmps := (#[p].zip #[enc x]).foldl (fun t (p, v) => t.setIfInBounds p v) a.tmps, defers := [] } W)
    (hbody : ∀ (l : Nat) (pre : List α) (x : α) (W : World), I pre W → pre.length < N → body.wpIn (F.inRound l) (n - 1 - 1) P (ownPostG w.heap.size Kp I Ix (pre ++ [x]) W) (a₁ x) W)
    (hdone : ∀ (D : Nat) (xs : List α) (W : World), w.heap.size ≤ D → S xs → I xs W → W.heap[D]? = some (.deferred (some [])) → Q .normal { a with defers := { target := .collected D, args := #[] } :: a.defers } W)
    (hstop : ∀ (D : Nat) (c : Code) (pre : List α) (W : World), w.heap.size ≤ D → Sp pre → Ix c pre W → W.heap[D]? = some (.deferred (some [])) → c.wpIn F n P Q { a with defers := { target := .collected D, args := #[] } :: a.defers } W) :
    (Code.rangeFunc g #[p] assign body).wpIn F n P Q a w := by
  refine wpIn_rangeFunc ?_
  intro fn hfn
  rw [hro]
  -- the loop's record lies at w.heap.size + 1, its book of deferred calls at w.heap.size
  obtain ⟨rec, hrec⟩ : ∃ rec : LoopState → Option Code → Loop, rec = fun st pe => { state := st, pending := pe, fn, tmps := a.tmps, params := #[p], assign, body, defers := w.heap.size } := ⟨_, rfl⟩
  obtain ⟨V, hV⟩ : ∃ V, (w.alloc (.deferred (some []))).alloc (.loop (rec .ready none)) = V := ⟨_, rfl⟩
  have sV : V.heap.size = w.heap.size + 2 := by rw [← hV]; simp
  have rV : V.heap[w.heap.size + 1]? = some (.loop (rec .ready none)) := by
    rw [← hV]
    have := World.alloc_heap_new (w.alloc (.deferred (some []))) (.loop (rec .ready none))
    rwa [World.size_alloc] at this
  have dV : V.heap[w.heap.size]? = some (.deferred (some [])) := by
    rw [← hV]
    exact (Below.heap_alloc _ _ _ (by simp)).trans (World.alloc_heap_new w _)
  have iV : I [] V := by rw [← hV]; exact hI.alloc _ (hI.alloc _ h0)
  have oV : ∀ k, k < w.heap.size → V.heap[k]? = w.heap[k]? := fun k hk => by
    rw [← hV]
    exact (Below.heap_alloc _ _ _ (by simp; omega)).trans (Below.heap_alloc _ _ _ hk)
  refine ⟨w.heap.size + 1, [{ target := .collected w.heap.size, args := #[] }], V, { target := .fn (.func gf) lb, args := #[.func (.yield (w.heap.size + 1)) #[] #[]] }, V, gf,
    #[.func (.yield (w.heap.size + 1)) #[] #[]] ++ lb, V, ?_, ?_, ?_, ?_, fun _ => h1, ?_⟩
  · rw [← hV, hrec]; exact run_enterLoop_outer _ _ _ _ _
  · simp only [resolve, hg]
    simp [go_sem]
  · intro f' hf'
    simp [Target.leads] at hf'
    subst hf'
    exact hFg
  · simp [invoke, go_sem, eg]
  have e1 : w.heap.size + 1 ≠ b := by omega
  have e2 : w.heap.size ≠ b := by omega
  refine (hseq (w.heap.size + 1)
    (fun pre W => I pre W ∧ W.heap[w.heap.size + 1]? = some (.loop (rec .ready none)) ∧ W.heap[w.heap.size]? = some (.deferred (some [])))
    (fun pre W => ∃ c, Ix c pre W ∧ W.heap[w.heap.size + 1]? = some (.loop (rec .done (some c))) ∧ W.heap[w.heap.size]? = some (.deferred (some [])))
    V (hBx V oV) (fun s W v ⟨h, r, d⟩ => ⟨hIw s W v h, setCell_else v r e1, setCell_else v d e2⟩) (fun s W v ⟨c, h, r, d⟩ => ⟨c, hIxw c s W v h, setCell_else v r e1, setCell_else v d e2⟩) ?_ ⟨iV, rV, dV⟩).mono ?_
  · -- a round
    rintro pre x W ⟨hi, hr, hd⟩ hlen
    have hin := (Array.getElem?_eq_some_iff.1 hr).1
    have hy := run_yield (P := P) (args := #[enc x]) hr (by rw [hrec]; rfl)
    rw [hrec] at hy
    refine ⟨fn, _, assign, body, hy, roundIn_of_wpIn hfn ?_⟩
    refine hassign (w.heap.size + 1) x W _ ?_
    refine ⟨_, run_beginRound hr (by rw [hrec]), ?_⟩
    -- the record is busy while the body runs
    obtain ⟨U, hU⟩ : ∃ U, W.putObj (w.heap.size + 1) (.loop { rec .ready none with state := .busy }) = U := ⟨_, rfl⟩
    have rU : U.heap[w.heap.size + 1]? = some (.loop { rec .ready none with state := .busy }) := by rw [← hU]; exact World.putObj_heap_same hin
    have dU : U.heap[w.heap.size]? = some (.deferred (some [])) := by rw [← hU]; exact (World.putObj_heap_other (by omega)).trans hd
    have kU : Kp W U := by rw [← hU]; exact hKb _ _ _ (by omega)
    have iU : I pre U := by rw [← hU]; exact hI.putObj _ hi (by omega) hr rfl
    have hbod := hbody (w.heap.size + 1) pre x U iU hlen
    rw [hU]
    refine wpIn_mono hbod ?_
    -- how a round ends, in whatever way
    have fin : ∀ (jump : Option Code) (X : World), KeepsFrom w.heap.size U X →
        (Instr.endRound (w.heap.size + 1) jump).run P X = .ok (.bool jump.isNone) (X.putObj (w.heap.size + 1) (.loop (rec (if jump.isNone then .ready else .done) jump))) ∧
        X.heap[w.heap.size + 1]? = some (.loop { rec .ready none with state := .busy }) ∧
        (X.putObj (w.heap.size + 1) (.loop (rec (if jump.isNone then .ready else .done) jump))).heap[w.heap.size + 1]? = some (.loop (rec (if jump.isNone then .ready else .done) jump)) ∧
        (X.putObj (w.heap.size + 1) (.loop (rec (if jump.isNone then .ready else .done) jump))).heap[w.heap.size]? = some (.deferred (some [])) := fun jump X hk => by
      have rX := hk.same _ _ (by omega) rU rfl
      have := run_endRound (P := P) jump rX
      rw [hrec] at this rX ⊢
      exact ⟨this, rX, World.putObj_heap_same (Array.getElem?_eq_some_iff.1 rX).1, (World.putObj_heap_other (by omega)).trans (hk.same _ _ (Nat.le_refl _) dU rfl)⟩
    have out : ∀ (c : Code) (X : World), KeepsFrom w.heap.size U X → Ix c (pre ++ [x]) X → ∃ v W', (Instr.endRound (w.heap.size + 1) (some c)).run P X = .ok v W' ∧ ((Ending.returned v = .returned (.bool true) ∧ (I (pre ++ [x]) W' ∧ W'.heap[w.heap.size + 1]? = some (.loop (rec .ready none)) ∧ W'.heap[w.heap.size]? = some (.deferred (some []))) ∧ Kp W W') ∨ (Ending.returned v = .returned (.bool false) ∧ ∃ c, Ix c (pre ++ [x]) W' ∧ W'.heap[w.heap.size + 1]? = some (.loop (rec .done (some c))) ∧ W'.heap[w.heap.size]? = some (.deferred (some [])))) := fun c X hk hx => by
      obtain ⟨hr1, hr2, hr3, hr4⟩ := fin (some c) X hk
      exact ⟨_, _, hr1, .inr ⟨rfl, c, (hIx c).putObj _ hx (by omega) hr2 rfl, hr3, hr4⟩⟩
    rintro e a3 X hp
    cases e with
    | normal =>
      obtain ⟨hk, hkp, hx⟩ := hp
      obtain ⟨hr1, hr2, hr3, hr4⟩ := fin none X hk
      exact ⟨_, _, hr1, .inl ⟨rfl, ⟨hI.putObj _ hx (by omega) hr2 rfl, hr3, hr4⟩, hKt (hKt kU hkp) (hKb _ _ _ (by omega))⟩⟩
    | ret => exact out .ret X hp.1 hp.2
    | exit id => exact out (.exit id) X hp.1 hp.2
    | goto t => exact out (.goto t) X hp.1 hp.2
    | panic ch => exact hp.elim
    | outgrown => exact hp.elim
  · -- behind the iterator
    rintro e W2 ⟨⟨v, rfl⟩, (⟨xs, hS, hi, hr, hd⟩ | ⟨pre, hSp, c, hi, hr, hd⟩)⟩
    · refine ⟨none, _, by have := run_endLoop (P := P) hr (by rw [hrec]; simp); rw [hrec] at this; exact this, ?_⟩
      exact hdone _ xs _ (Nat.le_refl _) hS (hI.putObj _ hi (by omega) hr rfl) ((World.putObj_heap_other (by omega)).trans hd)
    · refine ⟨some c, _, by have := run_endLoop (P := P) hr (by rw [hrec]; simp); rw [hrec] at this; exact this, ?_⟩
      exact hstop _ c pre _ (Nat.le_refl _) hSp ((hIx c).putObj _ hi (by omega) hr rfl) ((World.putObj_heap_other (by omega)).trans hd)
end
end Go.Proofs.YtnglhfeialomgaaDoor

/- What the packages of this seat call in Go's library, off the shelf: strings.HasPrefix, strings.Index at one byte. -/
namespace Go.Proofs
open Go.Shelf
shelf_lay Lays.n99 Nm 99 at Tryd as Tryd.lays99
shelf_lay Lays.n143 Nm 143 at Tryd as Tryd.lays143
namespace YtnglhfeialomgaaDoor
open Go.RowKit Go.Lib
theorem has_prefix (s p : ByteArray) (w : World) :
    Calls Tryd.prog 35 #[.string s, .string p] w fun e w' => e = .returned (.bool (Lib.hasPrefix s.data.toList p.data.toList)) ∧ w' = w := Any.strings_HasPrefix Tryd.lays99 s p w
theorem index_one (s : ByteArray) (c : UInt8) (w : World) :
    Calls Tryd.prog 74 #[.string s, .string ⟨#[c]⟩] w fun e w' => e = .returned (.int .i64 (Lib.indexByte s.data.toList c)) ∧ w' = w := Any.strings_Index_one Tryd.lays143 s c w
end YtnglhfeialomgaaDoor
end Go.Proofs
