/- A call of the document's that hands back a tree: its receiver's variable, the answer's. -/
import Derived.Laws.EntriesVeiled
import Derived.RangeFuncSeq
import Derived.Shelf.Lay
import Derived.Shelf.SlSortCmp.NoneTotal
import Derived.Shelf.Small.Strs
import Derived.Ground.SlsfProg
import Derived.Lib.RowBridge
import Derived.Lib.SortBridge
import Derived.WalkKit
import Derived.Test.YtnglhfeialomgaaGreatDoorTz03
import Derived.Test.YtnglhfeialomgaaGreatDoorTz06
import Derived.Test.YtnglhfeialomgaaGreatDoorTz07
import Derived.Test.YtnglhfeialomgaaGreatDoorTz15
import Derived.Test.YtnglhfeialomgaaGreatDoorTz16
import Derived.Test.YtnglhfeialomgaaGreatDoorTz18
namespace Go.Proofs.YtnglhfeialomgaaGreatDoor
open Go.RowKit

/-- A row is the old one, or lies in new memory, or says nothing. -/
def Apt {α : Type} (w : World) (g0 g : Nat) (l : List α) : Prop := g = g0 ∨ w.heap.size ≤ g ∨ l = []
/-- In a call that began at w: the receiver's variable X, the answer's X + 1. -/
structure TpW (w wr : World) (X : Nat) (g0 g1 : Nat) (a b : Value) (ga gb : Nat) (T : Tr.RT) : Prop where
  box : TpX wr X a b
  out : TpX wr (X + 1) (.slice none 0 0) (.slice none 0 0)
  v : TpV wr a b ga gb T
  na : ga ≠ X ∧ ga ≠ X + 1
  nb : gb ≠ X ∧ gb ≠ X + 1
  pa : Apt w g0 ga T.nm
  pb : Apt w g1 gb T.dirs
  fr : Fr [] w wr
  ge : w.heap.size ≤ X
/-- What a call hands back: a tree, what is wrong. -/
def TpA (g0 g1 : Nat) (T : Tr.RT) (c : Int) (w : World) (e : Ending) (w' : World) : Prop := ∃ u0 u1 h0 h1, e = .returned (.tuple #[.agg #[u0, u1], .int .i64 c]) ∧ TpV w' u0 u1 h0 h1 T ∧ Apt w g0 h0 T.nm ∧ Apt w g1 h1 T.dirs ∧ Fr [] w w'
theorem slE_any {α : Type} {E : Enc α} {w : World} {v : Value} {g : Nat} {l : List α} (h : SlR E w v g l) (hl : l = []) (g' : Nat) : SlR E w v g' l := by
  subst hl
  rcases h with h | ⟨o, c, e, -⟩
  · exact .inl h
  · exact .inl ⟨rfl, _, _, e⟩
theorem slE_lt {α : Type} {E : Enc α} {w : World} {v : Value} {g : Nat} {l : List α} (h : SlR E w v g l) (hl : l ≠ []) : g < w.heap.size := by
  rcases h with ⟨h, -⟩ | ⟨o, c, -, -, -, h3⟩
  · exact absurd h hl
  · have h4 := h3 0 (List.length_pos_iff.2 hl) 0 E.pos
    have h5 : 0 < (E.enc (l[0]'(List.length_pos_iff.2 hl))).length := by rw [E.len]; exact E.pos
    rw [List.getElem?_eq_getElem h5] at h4
    exact block_lt_of_cell h4
section
variable {w wr wr' : World} {X g0 g1 ga gb : Nat} {a b : Value} {T : Tr.RT}
theorem two_new (w : World) (o0 o1 : Obj) : Fr [] w ((w.alloc o0).alloc o1) ∧ ((w.alloc o0).alloc o1).heap[w.heap.size]? = some o0 ∧ ((w.alloc o0).alloc o1).heap[w.heap.size + 1]? = some o1 := by
  have h (a : World) (o p : Obj) {k : Nat} (hk : a.heap[k]? = some p) : (a.alloc o).heap[k]? = some p := ((Fr.refl [] a).alloc o).get hk (by simp)
  have n1 := heap_alloc_new (w.alloc o0) o1
  simp only [World.size_alloc] at n1
  exact ⟨((Fr.refl [] w).alloc _).alloc _, h _ _ _ (heap_alloc_new w o0), n1⟩
theorem TpW.start {v0 v1 : Value} (hV : TpV w v0 v1 g0 g1 T) : ∃ ga gb, TpW w ((w.alloc (.cells #[v0, v1] 28)).alloc (.cells #[.slice none 0 0, .slice none 0 0] 28)) w.heap.size g0 g1 v0 v1 ga gb T := by
  obtain ⟨hf, h0, h1⟩ := two_new w (.cells #[v0, v1] 28) (.cells #[.slice none 0 0, .slice none 0 0] 28)
  obtain ⟨ga, hna, hpa, hsa⟩ : ∃ ga, (ga ≠ w.heap.size ∧ ga ≠ w.heap.size + 1) ∧ Apt w g0 ga T.nm ∧ SlR nmE w v0 ga T.nm := by
    by_cases h : T.nm = []
    · exact ⟨w.heap.size + 2, ⟨by omega, by omega⟩, .inr (.inr h), slE_any hV.nm h _⟩
    · have := slE_lt hV.nm h
      exact ⟨g0, ⟨by omega, by omega⟩, .inl rfl, hV.nm⟩
  obtain ⟨gb, hnb, hpb, hsb⟩ : ∃ gb, (gb ≠ w.heap.size ∧ gb ≠ w.heap.size + 1) ∧ Apt w g1 gb T.dirs ∧ SlR boE w v1 gb T.dirs := by
    by_cases h : T.dirs = []
    · exact ⟨w.heap.size + 2, ⟨by omega, by omega⟩, .inr (.inr h), slE_any hV.dirs h _⟩
    · have := slE_lt hV.dirs h
      exact ⟨g1, ⟨by omega, by omega⟩, .inl rfl, hV.dirs⟩
  exact ⟨ga, gb, h0, h1, ⟨slE_fr hsa hf, slE_fr hsb hf⟩, hna, hnb, hpa, hpb, hf, Nat.le_refl _⟩
theorem TpW.step (h : TpW w wr X g0 g1 a b ga gb T) (hf : Fr [] wr wr') : TpW w wr' X g0 g1 a b ga gb T := ⟨h.box.step hf, h.out.step hf, h.v.step hf, h.na, h.nb, h.pa, h.pb, h.fr.trans hf, h.ge⟩
theorem TpW.lt (h : TpW w wr X g0 g1 a b ga gb T) : X + 2 ≤ wr.heap.size := lt_of_heap h.out
theorem TpW.cells (h : TpW w wr X g0 g1 a b ga gb T) : wr.cell? ⟨X, 0, none⟩ = some a ∧ wr.cell? ⟨X, 1, none⟩ = some b ∧ wr.frozen? ⟨X, 0, none⟩ = false ∧ wr.frozen? ⟨X, 1, none⟩ = false := ⟨h.box.cells.1, h.box.cells.2, free_block h.box 0 none, free_block h.box 1 none⟩
theorem TpW.outs (h : TpW w wr X g0 g1 a b ga gb T) : wr.cell? ⟨X + 1, 0, none⟩ = some (.slice none 0 0) ∧ wr.cell? ⟨X + 1, 1, none⟩ = some (.slice none 0 0) ∧ wr.frozen? ⟨X + 1, 0, none⟩ = false ∧ wr.frozen? ⟨X + 1, 1, none⟩ = false := ⟨h.out.cells.1, h.out.cells.2, free_block h.out 0 none, free_block h.out 1 none⟩
theorem TpW.set0 (h : TpW w wr X g0 g1 a b ga gb T) {a' : Value} {g' : Nat} {nm' : Tr.Nr} (hs : SlR nmE wr a' g' nm') (hg : X + 2 ≤ g' ∨ nm' = []) : ∃ g2, TpW w (wr.setCell ⟨X, 0, none⟩ a') X g0 g1 a' b g2 gb ⟨nm', T.dirs⟩ := by
  have hf : Fr [X] wr (wr.setCell ⟨X, 0, none⟩ a') := (Fr.refl _ wr).setCell (.inl (by simp)) _
  obtain ⟨g2, hn, hp, hs2⟩ : ∃ g2, (g2 ≠ X ∧ g2 ≠ X + 1) ∧ Apt w g0 g2 nm' ∧ SlR nmE wr a' g2 nm' := by
    have := h.ge
    rcases hg with hg | hg
    · exact ⟨g', ⟨by omega, by omega⟩, .inr (.inl (by omega)), hs⟩
    · exact ⟨X + 2, ⟨by omega, by omega⟩, .inr (.inr hg), slE_any hs hg _⟩
  exact ⟨g2, set_block h.box _, hf.get h.out (by simp), ⟨hs2.fr hf (by simpa using hn.1), h.v.dirs.fr hf (by simpa using h.nb.1)⟩, hn, h.nb, hp, h.pb, h.fr.step hf (fun y hy => .inr (by simp only [List.mem_singleton] at hy; subst hy; exact h.ge)), h.ge⟩
theorem TpW.set1 (h : TpW w wr X g0 g1 a b ga gb T) {b' : Value} {g' : Nat} {ds' : List Bool} (hs : SlR boE wr b' g' ds') (hg : X + 2 ≤ g' ∨ ds' = []) : ∃ g2, TpW w (wr.setCell ⟨X, 1, none⟩ b') X g0 g1 a b' ga g2 ⟨T.nm, ds'⟩ := by
  have hf : Fr [X] wr (wr.setCell ⟨X, 1, none⟩ b') := (Fr.refl _ wr).setCell (.inl (by simp)) _
  obtain ⟨g2, hn, hp, hs2⟩ : ∃ g2, (g2 ≠ X ∧ g2 ≠ X + 1) ∧ Apt w g1 g2 ds' ∧ SlR boE wr b' g2 ds' := by
    have := h.ge
    rcases hg with hg | hg
    · exact ⟨g', ⟨by omega, by omega⟩, .inr (.inl (by omega)), hs⟩
    · exact ⟨X + 2, ⟨by omega, by omega⟩, .inr (.inr hg), slE_any hs hg _⟩
  exact ⟨g2, set_block h.box _, hf.get h.out (by simp), ⟨h.v.nm.fr hf (by simpa using h.na.1), hs2.fr hf (by simpa using hn.1)⟩, h.na, hn, h.pa, hp, h.fr.step hf (fun y hy => .inr (by simp only [List.mem_singleton] at hy; subst hy; exact h.ge)), h.ge⟩
/-- The struct is laid into the answer's place. -/
theorem TpW.fin (h : TpW w wr X g0 g1 a b ga gb T) : TpX ((wr.setCell ⟨X + 1, 0, none⟩ a).setCell ⟨X + 1, 1, none⟩ b) (X + 1) a b ∧ ∀ c, TpA g0 g1 T c w (.returned (.tuple #[.agg #[a, b], .int .i64 c])) ((wr.setCell ⟨X + 1, 0, none⟩ a).setCell ⟨X + 1, 1, none⟩ b) := by
  have hf : Fr [X + 1] wr ((wr.setCell ⟨X + 1, 0, none⟩ a).setCell ⟨X + 1, 1, none⟩ b) := ((Fr.refl _ wr).setCell (.inl (by simp)) _).setCell (.inl (by simp)) _
  have h1 : TpX (wr.setCell ⟨X + 1, 0, none⟩ a) (X + 1) a (.slice none 0 0) := set_block h.out _
  exact ⟨set_block h1 _, fun c => ⟨a, b, ga, gb, rfl, ⟨h.v.nm.fr hf (by simpa using h.na.2), h.v.dirs.fr hf (by simpa using h.nb.2)⟩, h.pa, h.pb, h.fr.step hf (fun y hy => .inr (by simp only [List.mem_singleton] at hy; subst hy; have := h.ge; omega))⟩⟩
end
theorem tp_results {fn : Func} {tmps : Array Value} {w : World} {i j : Nat} {B : Nat} {a b y : Value} (hr : fn.results = #[.cell i 28, .tmp j]) (ha : tmps.getD i undef = .pointer (some ⟨B, 0, none⟩)) (hb : tmps.getD j undef = y) (h : TpX w B a b) :
    (results fn tmps).run Tryz.prog w = .ok (.tuple #[.agg #[a, b], y]) w := by
  have ha' : tmps[i]?.getD undef = .pointer (some ⟨B, 0, none⟩) := by rw [← ha]; simp
  have hb' : tmps[j]?.getD undef = y := by rw [← hb]; simp
  unfold results
  rw [hr]
  simp [asAddr, Sem.run_bind, ha', hb', h.load]
end Go.Proofs.YtnglhfeialomgaaGreatDoor
/- Walk: the two captured variables (the texts so far; the closure itself). -/
namespace Go.Proofs.YtnglhfeialomgaaGreatDoor
open Go.RowKit

theorem own_ne_block {α : Type} {E : Enc α} {w : World} {B e : Nat} {v : Value} {l : List α} {b : Nat} {cur : Array Value} {t : TypeId} {fr : Nat × Nat} (h : OwnR E w B e v l) (hg : w.heap[b]? = some (.cells cur t fr)) (hne : e ≠ t) : v.ownBlock ≠ some b := by
  rcases h.2 with ⟨rfl, _⟩ | ⟨g, cap, cur', rfl, _, hg', _⟩
  · intro e; cases e
  · intro he
    have he : g = b := by simpa [Value.ownBlock] using he
    subst he
    rw [hg] at hg'
    injection hg' with hg'
    injection hg' with _ hg' _
    exact hne hg'.symm
theorem fr_grown {w w' : World} {v : Value} (hg : w.grownBy w' v.ownBlock) : Fr v.ownBlock.toList w w' := ⟨hg.os, hg.tape, hg.output, hg.size, fun k hk hn => hg.block k hk (fun e => hn (by rw [← e]; simp))⟩
structure WkJ (w0 : World) (vb fb : Nat) (l : List (List UInt8)) (w : World) : Prop where
  out : ∃ A c, w.heap[vb]? = some (.cells #[.slice A l.length c] 30 (0, 0)) ∧ OwnR strE w w0.heap.size 9 (.slice A l.length c) l
  fn : ∃ t, 9 ≠ t ∧ w.heap[fb]? = some (.cells #[.func (.func 32) #[] #[.pointer (some ⟨vb, 0, none⟩), .pointer (some ⟨fb, 0, none⟩)]] t (0, 0))
  fr : Fr [] w0 w
  vge : w0.heap.size ≤ vb
  ne : fb ≠ vb
theorem WkJ.keep {w0 w w' : World} {vb fb : Nat} {l : List (List UInt8)} (h : WkJ w0 vb fb l w) (hf : Fr [] w w') : WkJ w0 vb fb l w' := by
  obtain ⟨⟨A, c, h1, h2⟩, ⟨t, h3, h4⟩, h5, h6, h7⟩ := h
  exact ⟨⟨A, c, hf.get h1 (by simp), h2.kept hf (by simp)⟩, ⟨t, h3, hf.get h4 (by simp)⟩, h5.trans hf, h6, h7⟩
/-- A block that is no cells turns (a range's step). -/
theorem WkJ.turn {w0 w w' : World} {vb fb r : Nat} {l : List (List UInt8)} (h : WkJ w0 vb fb l w) (hf : Fr [r] w w') (hr : w0.heap.size ≤ r) (hc : ∀ o, w.heap[r]? = some o → o.isCells = false) : WkJ w0 vb fb l w' := by
  obtain ⟨⟨A, c, h1, h2⟩, ⟨t, h3, h4⟩, h5, h6, h7⟩ := h
  have hne : ∀ k cs ty fr, w.heap[k]? = some (.cells cs ty fr) → k ∉ [r] := fun k cs ty fr hk hm => by
    simp only [List.mem_singleton] at hm
    subst hm
    have := hc _ hk
    cases this
  refine ⟨⟨A, c, hf.get h1 (hne _ _ _ _ h1), h2.kept hf (fun g hg e => ?_)⟩, ⟨t, h3, hf.get h4 (hne _ _ _ _ h4)⟩, h5.step hf (fun x hx => by simp only [List.mem_singleton] at hx; subst hx; exact .inr hr), h6, h7⟩
  simp only [List.mem_singleton] at hg
  subst hg
  obtain ⟨-, h2⟩ := h2
  rcases h2 with ⟨he, _⟩ | ⟨g, cap, cur, he, hb, hcell, _⟩
  · rw [he] at e; cases e
  · rw [he] at e
    simp only [Value.ownBlock, Option.some.injEq] at e
    subst e
    have := hc _ hcell
    cases this
theorem WkJ.push {w0 w w2 : World} {vb fb : Nat} {l : List (List UInt8)} {x : List UInt8} {A : Option Addr} {c : Nat} {v' : Value} (h : WkJ w0 vb fb l w) (hb : w.heap[vb]? = some (.cells #[.slice A l.length c] 30 (0, 0))) (ho : OwnR strE w w0.heap.size 9 (.slice A l.length c) l)
    (h1 : OwnR strE w2 w0.heap.size 9 v' (l ++ [x])) (hg : w.grownBy w2 (Value.slice A l.length c).ownBlock) : (∃ A' c', v' = .slice A' (l.length + 1) c') ∧ w2.cell? ⟨vb, 0, none⟩ = some (.slice A l.length c) ∧ w2.frozen? ⟨vb, 0, none⟩ = false ∧ WkJ w0 vb fb (l ++ [x]) (w2.setCell ⟨vb, 0, none⟩ v') ∧ KeepsWalks w (w2.setCell ⟨vb, 0, none⟩ v') := by
  obtain ⟨-, ⟨t, h3, h4⟩, h5, h6, h7⟩ := h
  have hfg := fr_grown hg
  have hkw := (ho.keeps hg).walks
  have hbb : w2.heap[vb]? = some (.cells #[.slice A l.length c] 30 (0, 0)) := hfg.get hb (by
    have := own_ne_block ho hb (by decide)
    simpa using this)
  have hbf := hfg.get h4 (by
    have := own_ne_block ho h4 h3
    simpa using this)
  have hS : Fr [vb] w2 (w2.setCell ⟨vb, 0, none⟩ v') := (Fr.refl _ _).setCell (.inl (by simp)) _
  obtain ⟨A', c', hv'⟩ := h1.form0
  refine ⟨⟨A', c', by rw [hv', List.length_append]; rfl⟩, by rw [cell_of_row w2 vb 0 _ _ _ hbb]; rfl, free_block hbb 0 none, ⟨⟨A', c', ?_, ?_⟩, ⟨t, h3, hS.get hbf (by simpa using h7)⟩, ?_, h6, h7⟩, hkw.trans (KeepsOthers.setCell _ _ _).walks⟩
  · rw [← hv']; exact set_block hbb _
  · rw [← hv']
    refine h1.kept hS (fun g hg => ?_)
    simp only [List.mem_singleton] at hg
    subst hg
    exact own_ne_block h1 hbb (by decide)
  · refine (h5.grown hg (fun g hg => .inr (ho.ge g hg).1)).step hS (fun y hy => .inr ?_)
    simp only [List.mem_singleton] at hy
    subst hy
    exact h6
end Go.Proofs.YtnglhfeialomgaaGreatDoor

/- Walk: the closure that calls itself. -/
namespace Go.Proofs.YtnglhfeialomgaaGreatDoor
open Go.RowKit

section
variable {P : Program} {k : TypeId} {w w' : World} {b r n cnt : Nat} {m : Nm → Option Nat} {left : Nm → Bool}
theorem SRange.left_eq (h : SRange P k w b r n m left cnt) : w.rangeLeft b r = cnt := by
  obtain ⟨D, L, h, _, _⟩ := h
  exact h.left_eq
theorem SRange.walks (h : SRange P k w b r n m left cnt) (hk : KeepsWalks w w') : SRange P k w' b r n m left cnt := by
  obtain ⟨D, L, h, h1, h2⟩ := h
  exact ⟨D, L, h.of_walks hk, h1, h2⟩
theorem SRange.notCells (h : SRange P k w b r n m left cnt) : ∀ o, w.heap[r]? = some o → o.isCells = false := fun o ho => by
  obtain ⟨D, L, h, _, _⟩ := h
  obtain ⟨o', h1, h2⟩ := h.iter_walk
  rw [h1] at ho
  injection ho with ho
  subst ho
  exact Obj.not_cells_of_walk h2
theorem KeepsWalks.stepAt {a b c : World} {r : Nat} (h : KeepsWalks a b) (hf : Fr [r] b c) (hr : a.heap.size ≤ r) : KeepsWalks a c :=
  ⟨Nat.le_trans h.size hf.size, fun k o hk ho => hf.get (h.same k o hk ho) (by have := lt_of_heap hk; simp only [List.mem_singleton]; omega)⟩
end
set_option maxRecDepth 100000 in
set_option maxHeartbeats 4000000 in
theorem tr_walk1 (w0 : World) (tb : Nat) (g : Tr.G) (dom : Nat → Prop) (K : Nat) (hS0 : TrS w0 tb g dom K) (hcn : Tr.Cn g) (vb fb : Nat) : ∀ (k : Nat) (p : List Tr.Nme) (n : Nat) (ps : List (List Tr.Nme)) (w : World),
    Tr.fnd g g.root p = .ok n → (g.ent n).isSome = true → 8 - p.length ≤ k → Tr.Good g p ps → WkJ w0 vb fb (ps.map (Tr.txtG g)) w →
    Calls Tryz.prog 32 #[.string (Pa.mk (Tr.atT p)), .pointer (some ⟨n, 0, none⟩), .pointer (some ⟨vb, 0, none⟩), .pointer (some ⟨fb, 0, none⟩)] w fun e w' => e = .returned (.tuple #[]) ∧ KeepsWalks w w' ∧ ∃ qs, Tr.Below g p n qs ∧ WkJ w0 vb fb ((ps ++ qs).map (Tr.txtG g)) w' := by
  intro k
  induction k using Nat.strongRecOn with
  | ind k ih =>
  intro p n ps w hfd hdir hk hgood hJ
  have hd := hS0.found p g.root n hS0.rootD hfd
  obtain ⟨m, hm⟩ := Option.isSome_iff_exists.1 hdir
  obtain ⟨h0, hmap⟩ := ((hS0.step hJ.fr).node n hd).dir hm
  have n0 : w.cell? ⟨n, 0, none⟩ = some (.map (some (g.mb n))) := by rw [cell_of_row _ _ _ _ _ _ h0]; rfl
  have HMAP := Lib.hid hmap
  have HJ := Lib.hid hJ
  have HS0 := Lib.hid hS0
  have HCN := Lib.hid hcn
  have HG := Lib.hid hgood
  have HFD := Lib.hid hfd
  have HM := Lib.hid hm
  have HD := Lib.hid hd
  have hp8 := hS0.ok.short p n hfd
  have hal := Tr.atT_len (Tr.fnd_names hS0.ok p g.root n hfd) hp8
  have hms := Pa.mk_size (Tr.atT p)
  rw [← hms] at hal
  obtain ⟨m1, hm1⟩ : ∃ m1, m1 = Pa.mk (Tr.atT p) := ⟨_, rfl⟩
  rw [← hm1] at hal ⊢
  have HM1 := Lib.hid hm1
  have HIH : Hid (∀ x c, Tr.kid g n x = some c → (g.ent c).isSome = true → ∀ ps w, Tr.Good g (p ++ [x]) ps → WkJ w0 vb fb (ps.map (Tr.txtG g)) w →
      Calls Tryz.prog 32 #[.string (Pa.mk (Tr.atT (p ++ [x]))), .pointer (some ⟨c, 0, none⟩), .pointer (some ⟨vb, 0, none⟩), .pointer (some ⟨fb, 0, none⟩)] w fun e w' => e = .returned (.tuple #[]) ∧ KeepsWalks w w' ∧ ∃ qs, Tr.Below g (p ++ [x]) c qs ∧ WkJ w0 vb fb ((ps ++ qs).map (Tr.txtG g)) w') := fun x c hkx hdc ps w hg hj => by
    have hf : Tr.fnd g g.root (p ++ [x]) = .ok c := by rw [Tr.fnd_app_ok hfd, Tr.fnd_step hkx]; rfl
    have h8 := hS0.ok.short _ c hf
    rw [List.length_append, List.length_singleton] at h8
    exact ih (k - 1) (by omega) (p ++ [x]) c ps w hf hdc (by rw [List.length_append, List.length_singleton]; omega) hg hj
  clear ih hS0 hcn hfd hdir hk hgood hJ hd hm h0 hmap hms hm1 hp8
  go_enter Tryz.func32, Tryz.ntmps32
  go_wp2_with (at_range; refine wpList_srange rfl _ rfl HMAP.out Tryz.underlying9 Tryz.underlying54 rfl ?_; intro w1 cnt0 hr0 hf0 hs0; have HR0 := Lib.hid hr0; have HF0 := Lib.hid hf0; clear hr0 hf0)
  go_frame
  have HW0 : Hid (KeepsWalks w w1) := KeepsWalks.of_fr HF0.out (by simp)
  have HJ1 := Lib.hid (HJ.out.keep HF0.out)
  have HP0 : Hid (Tr.Part g p n (fun x => (m x).isSome) []) := Tr.Part.start HM.out
  have HRW : Hid (w0.heap.size ≤ w.heap.size) := HJ.out.fr.size
  have HRL : Hid (w.heap.size ≤ w.heap.size) := Nat.le_refl _
  revert HRW HR0 HRL
  generalize hrr : w.heap.size = r at *
  intro HR0 HRW HRL
  have HRR := Lib.hid hrr
  clear hrr HMAP HJ n0
  go_loopw [6, 7] (fun _ _ wr => ∃ left cnt qs, Hid (SRange Tryz.prog 9 wr (g.mb n) r K m left cnt) ∧ Hid (Tr.Part g p n left qs) ∧ Hid (WkJ w0 vb fb ((ps ++ qs).map (Tr.txtG g)) wr) ∧ Hid (KeepsWalks w wr)) (fun _ _ wr => wr.rangeLeft (g.mb n) r)
  case atStart => exact ⟨_, _, [], HR0, HP0, by rw [List.append_nil]; exact HJ1, HW0⟩
  case round =>
    clear HR0 HP0 HJ1 HW0 HF0 hs0
    obtain ⟨left, cnt, qs, hR, hP, hJ, hW⟩ := hrel
    have HM0 := Lib.hid hR.out.left_eq
    go_wp2_with (at_next; refine wpList_snext rfl _ rfl Tryz.underlying9 rfl hR.out ?_ ?_)
    · intro hl0
      have HE : Hid (Tr.Below g p n qs) := hP.out.done (fun x c hx => hl0 x (by
        have h4 := (HS0.out.ok.name n m x c HM.out (by rw [← Tr.kid_of HM.out]; exact hx)).2.1
        unfold maxLen; omega))
      clear hl0
      go_wp2
      go_end0
      exact ⟨rfl, hW.out, qs, HE.out, hJ.out⟩
    · intro x q w2 cnt2 hx hlx hmx hr2 hlt2 hf2 hsz2 hen
      have hkx : Tr.kid g n x = some q := by rw [Tr.kid_of HM.out]; exact hmx
      have hxn := HS0.out.ok.name n m x q HM.out hmx
      have HR2 := Lib.hid hr2
      have HLT := Lib.hid hlt2
      have HKX := Lib.hid hkx
      have HLX := Lib.hid hlx
      have HJ2 := Lib.hid (hJ.out.turn hf2 HRW.out hR.out.notCells)
      have HW2 := Lib.hid (KeepsWalks.stepAt hW.out hf2 (by rw [HRR.out]; exact HRL.out))
      have hx4 := hxn.2.1
      have hqd := HS0.out.closed n x q HD.out hkx
      have hfx : Tr.fnd g g.root (p ++ [x]) = .ok q := by rw [Tr.fnd_app_ok HFD.out, Tr.fnd_step hkx]; rfl
      have hqn := (HS0.out.step HJ2.out.fr).node q hqd
      have HTX : Hid (Tr.txtG g (p ++ [x]) = Tr.txt g (p ++ [x]) q) := Tr.txtG_ok hfx
      have hms := Pa.mk_size x
      rw [← hms] at hx4
      -- how many there are
      have hlen : (ps ++ qs).length < 1000000 := by
        obtain ⟨h1, h2⟩ := HG.out.all HFD.out hP.out
        have := HCN.out.bound h1 h2
        have := HS0.out.many
        omega
      have hlen : ((ps ++ qs).map (Tr.txtG g)).length < 1000000 := by rw [List.length_map]; exact hlen
      obtain ⟨L, hL⟩ : ∃ L, (ps ++ qs).map (Tr.txtG g) = L := ⟨_, rfl⟩
      rw [hL] at HJ2 hlen
      have HL := Lib.hid hL
      obtain ⟨A, c, hb, ho⟩ := HJ2.out.out
      have vc : w2.cell? ⟨vb, 0, none⟩ = some (.slice A L.length c) := by rw [cell_of_row w2 vb 0 _ _ _ hb]; rfl
      have HB := Lib.hid hb
      have HO := Lib.hid ho
      have hz2 := HJ2.out.fr.size
      obtain ⟨m2, hm2⟩ : ∃ m2, m2 = Pa.mk x := ⟨_, rfl⟩
      rw [← hm2] at hx4 hen ⊢
      have HCAT : Hid (m1 ++ m2 = Pa.mk (Tr.atT p ++ x)) := by show _ = _; rw [HM1.out, hm2, mk_append]
      have HCAT2 : Hid (m1 ++ m2 ++ (⟨#[47]⟩ : ByteArray) = Pa.mk (Tr.atT p ++ x ++ [47])) := by show _ = _; rw [HCAT.out, show (⟨#[47]⟩ : ByteArray) = Pa.mk [47] from rfl, mk_append]
      have hcs : (m1 ++ m2).size = m1.size + m2.size := ByteArray.size_append
      clear hx hlx hmx hr2 hlt2 hf2 hkx hxn hqd hfx hms hb ho hm2 hsz2 hL
      cases he : g.ent q with
      | none =>
        have h0 := hqn.file he
        have k0 : w2.cell? ⟨q, 0, none⟩ = some (.map none) := by rw [cell_of_row _ _ _ _ _ _ h0]; rfl
        have q0 := mapNil w2 none
        have HT : Hid (L ++ [Tr.atT p ++ x] = (ps ++ (qs ++ [p ++ [x]] ++ [])).map (Tr.txtG g)) := by
          show _ = _
          have e : Tr.txt g (p ++ [x]) q = Tr.atT p ++ x := by unfold Tr.txt; rw [he]; exact Tr.txtB_file p x
          rw [← HL.out]
          simp [HTX.out, e]
        have HP2 : Hid (Tr.Part g p n (fun z => left z && !(z == x)) (qs ++ [p ++ [x]] ++ [])) := hP.out.step HLX.out HKX.out (Tr.Below.file he _)
        clear h0 hqn he
        go_wp2_with (at_builtin; refine wpList_push_enc (E := strE) (wr := w2) (y := Tr.atT p ++ x) Tryz.underlying30 info_str rfl (by decide) rfl _ _ rfl w0.heap.size _ L rfl (by rw [HCAT.out]; rfl) HO.out rfl hlen hz2 ?_; intro v' w3 h1 h2 _; obtain ⟨⟨A', c', rfl⟩, vc2, vf2, hJ3, hW3⟩ := HJ2.out.push HB.out HO.out h1 h2; have HJ3 := Lib.hid hJ3; have HW3 := Lib.hid hW3; clear h1 h2 hJ3 hW3 vc)
        go_roundw
        case rel => exact ⟨_, cnt2, _, HR2.out.walks HW3.out, HP2, by rw [← HT.out]; exact HJ3, HW2.out.trans HW3.out⟩
        case measure => rw [(HR2.out.walks HW3.out).left_eq, HM0.out]; exact HLT.out
      | some mq =>
        obtain ⟨h0, -⟩ := hqn.dir he
        have k0 : w2.cell? ⟨q, 0, none⟩ = some (.map (some (g.mb q))) := by rw [cell_of_row _ _ _ _ _ _ h0]; rfl
        have q0 := mapNil w2 (some (g.mb q))
        have HT : Hid (L ++ [Tr.atT p ++ x ++ [47]] = (ps ++ (qs ++ [p ++ [x]])).map (Tr.txtG g)) := by
          show _ = _
          have e : Tr.txt g (p ++ [x]) q = Tr.atT p ++ x ++ [47] := by unfold Tr.txt; rw [he]; exact Tr.txtB_dir p x
          rw [← HL.out]
          simp [HTX.out, e]
        have HINTO := Lib.hid (HG.out.into HFD.out hP.out HLX.out HKX.out)
        have HCALL := Lib.hid (fun W => HIH.out x q HKX.out (by rw [he]; rfl) (ps ++ (qs ++ [p ++ [x]])) W HINTO.out)
        have HAT : Hid (Tr.atT (p ++ [x]) = Tr.atT p ++ x ++ [47]) := Tr.atT_snoc p x
        have HSTEP : Hid (∀ q2, Tr.Below g (p ++ [x]) q q2 → Tr.Part g p n (fun z => left z && !(z == x)) (qs ++ [p ++ [x]] ++ q2)) := fun q2 h2 => hP.out.step HLX.out HKX.out h2
        rw [HAT.out, ← HCAT2.out] at HCALL
        clear h0 hqn he
        go_wp2_with (first
          | (at_builtin; refine wpList_push_enc (E := strE) (wr := w2) (y := Tr.atT p ++ x ++ [47]) Tryz.underlying30 info_str rfl (by decide) rfl _ _ rfl w0.heap.size _ L rfl (by rw [HCAT2.out]; rfl) HO.out rfl hlen hz2 ?_; intro v' w3 h1 h2 _; obtain ⟨⟨A', c', rfl⟩, vc2, vf2, hJ3, hW3⟩ := HJ2.out.push HB.out HO.out h1 h2; rw [HT.out] at hJ3; have HJ3 := Lib.hid hJ3; have HW3 := Lib.hid hW3; obtain ⟨tf, -, hfb⟩ := hJ3.fn; have fc := cell_of_row _ fb 0 _ _ _ hfb; clear h1 h2 hJ3 hW3 vc hfb)
          | (go_at_call 32; (with_reducible refine useC (HCALL.out _ HJ3.out) ?_); rintro e w4 ⟨rfl, hkw, q2, hq2, hj⟩; have HW4 := Lib.hid hkw; have HQ2 := Lib.hid hq2; have HJ4 := Lib.hid hj; clear hkw hq2 hj))
        go_roundw
        case rel => exact ⟨_, cnt2, qs ++ [p ++ [x]] ++ q2, HR2.out.walks (HW3.out.trans HW4.out), HSTEP.out q2 HQ2.out, by rw [← List.append_assoc ps]; exact HJ4, (HW2.out.trans HW3.out).trans HW4.out⟩
        case measure => rw [(HR2.out.walks (HW3.out.trans HW4.out)).left_eq, HM0.out]; exact HLT.out
/-- The two variables, ahead of all. -/
theorem wkJ_start (w : World) (t : TypeId) (ht : 9 ≠ t) : WkJ w w.heap.size (w.heap.size + 1) [] ((w.alloc (.cells #[.slice none 0 0] 30)).alloc (.cells #[.func (.func 32) #[] #[.pointer (some ⟨w.heap.size, 0, none⟩), .pointer (some ⟨w.heap.size + 1, 0, none⟩)]] t)) := by
  have s1 : (w.alloc (.cells #[.slice none 0 0] 30)).heap.size = w.heap.size + 1 := by simp
  have x1 := heap_alloc_new w (.cells #[.slice none 0 0] 30)
  have g0 : Fr [] w (w.alloc (.cells #[.slice none 0 0] 30)) := (Fr.refl _ _).alloc _
  generalize w.alloc (.cells #[.slice none 0 0] 30) = wa at *
  have x2 := heap_alloc_new wa (.cells #[.func (.func 32) #[] #[.pointer (some ⟨w.heap.size, 0, none⟩), .pointer (some ⟨w.heap.size + 1, 0, none⟩)]] t)
  rw [s1] at x2
  have g1 : Fr [] wa (wa.alloc (.cells #[.func (.func 32) #[] #[.pointer (some ⟨w.heap.size, 0, none⟩), .pointer (some ⟨w.heap.size + 1, 0, none⟩)]] t)) := (Fr.refl _ _).alloc _
  exact ⟨⟨none, 0, g1.get x1 (by simp), OwnR.nil⟩, ⟨t, ht, x2⟩, g0.trans g1, Nat.le_refl _, by omega⟩
theorem wkJ_box (w : World) (z : Value) (t : TypeId) : ((w.alloc (.cells #[.slice none 0 0] 30)).alloc (.cells #[z] t)).cell? ⟨w.heap.size + 1, 0, none⟩ = some z ∧ ((w.alloc (.cells #[.slice none 0 0] 30)).alloc (.cells #[z] t)).frozen? ⟨w.heap.size + 1, 0, none⟩ = false := by
  have s1 : (w.alloc (.cells #[.slice none 0 0] 30)).heap.size = w.heap.size + 1 := by simp
  have x2 := heap_alloc_new (w.alloc (.cells #[.slice none 0 0] 30)) (.cells #[z] t)
  rw [s1] at x2
  exact ⟨by rw [cell_of_row _ _ 0 _ _ _ x2]; rfl, free_block x2 0 none⟩
end Go.Proofs.YtnglhfeialomgaaGreatDoor

/- slices.SortFunc by strings.Compare at a row of texts that the call owns, off the shelf. -/
namespace Go.Proofs
open Go.Shelf
shelf_lay_g SlLaysF.n6 Slsf 6 at Tryz 33 as Tryz.sortS
shelf_lay Lays.n106 Nm 106 at Tryz as Tryz.lays106
namespace YtnglhfeialomgaaGreatDoor
open Go.RowKit Go.Lib Go.Sort

theorem cmpB_lt : ∀ a b : List UInt8, Lib.compareBytes a b < 0 ↔ a < b
  | [], [] => by simp [Lib.compareBytes]
  | [], _ :: _ => by simp [Lib.compareBytes]
  | _ :: _, [] => by simp [Lib.compareBytes]
  | a :: aa, b :: bb => by
    rw [List.cons_lt_cons_iff]
    have ih := cmpB_lt aa bb
    unfold Lib.compareBytes
    by_cases h1 : a < b
    · simp [h1]
    · rw [if_neg h1]
      by_cases h2 : b < a
      · rw [if_pos h2]
        have h3 : a ≠ b := fun e => by subst e; exact UInt8.lt_irrefl _ h2
        simp [h1, h3]
      · rw [if_neg h2, ih]
        have h3 : a = b := UInt8.le_antisymm (UInt8.not_lt.1 h2) (UInt8.not_lt.1 h1)
        simp [h1, h3]
theorem ltS (a b : List UInt8) : ltOf Lib.compareBytes a b = decide (a < b) := by
  unfold ltOf
  rw [decide_eq_decide]
  exact cmpB_lt a b
theorem swoS : SWO (ltOf Lib.compareBytes) where
  irrefl x := by rw [ltS]; simp [List.lt_irrefl]
  trans x y z h1 h2 := by rw [ltS] at *; simp only [decide_eq_true_eq] at *; exact List.lt_trans h1 h2
  ntrans x y z h1 h2 := by rw [ltS] at *; simp only [decide_eq_false_iff_not, List.not_lt] at *; exact List.le_trans h2 h1
theorem totS (x y : List UInt8) (h1 : ltOf Lib.compareBytes x y = false) (h2 : ltOf Lib.compareBytes y x = false) : x = y := by
  rw [ltS] at *
  simp only [decide_eq_false_iff_not, List.not_lt] at *
  exact List.le_antisymm h2 h1
theorem encStr_mk' (x : List UInt8) : encStr x = Value.string (Pa.mk x) := rfl
/-- The texts, rising. -/
def srtS (l : List (List UInt8)) : List (List UInt8) := l.mergeSort (fun x y => !ltOf Lib.compareBytes y x)
theorem srtS_perm (l : List (List UInt8)) : (srtS l).Perm l := List.mergeSort_perm _ _
theorem srtS_lt {l : List (List UInt8)} (h : l.Nodup) : (srtS l).Pairwise (· < ·) := by
  have h1 : (srtS l).Pairwise (fun x y => (!ltOf Lib.compareBytes y x) = true) := List.pairwise_mergeSort (fun x y z a b => by
    simp only [ltS, Bool.not_eq_true', decide_eq_false_iff_not, List.not_lt] at *
    exact List.le_trans a b) (fun x y => by
    simp only [ltS, Bool.or_eq_true, Bool.not_eq_true', decide_eq_false_iff_not, List.not_lt]
    exact List.le_total x y) l
  have h2 : (srtS l).Nodup := (srtS_perm l).nodup_iff.2 h
  refine (h1.and h2).imp (fun {a b} ⟨p, q⟩ => ?_)
  simp only [ltS, Bool.not_eq_true', decide_eq_false_iff_not, List.not_lt] at p
  rcases Decidable.em (a < b) with h | h
  · exact h
  · exact absurd (List.le_antisymm p (List.not_lt.1 h)) q
theorem fr_sortS (w : World) (g o n : Nat) (d : Array (List UInt8)) (os : Array Obj) : Fr [g] w (sortWorld encStr w g o n d os) := by
  refine ⟨rfl, rfl, rfl, ?_, fun k hk hn => ?_⟩
  · show _ ≤ (grow _ _).heap.size
    rw [size_grow, size_putRow]
    exact Nat.le_add_right _ _
  · have hne : g ≠ k := by rintro rfl; simp at hn
    show (((Sort.ahead w n).heap.modify g _) ++ os)[k]? = _
    rw [Array.getElem?_append_left (by rw [Array.size_modify]; exact hk), Array.getElem?_modify, if_neg hne]
    rfl
theorem cmpReadsS (blk off size : Nat) (w : World) : CmpReads Tryz.prog 34 #[] encStr Lib.compareBytes blk off size w := fun m os dk _ x y => by
  have h := Any.strings_Compare Tryz.lays106 (Pa.mk x) (Pa.mk y) (sortWorld encStr w blk off m dk os)
  rw [Pa.mk_list, Pa.mk_list] at h
  exact h.mono fun e w' ⟨he, hw⟩ => ⟨he, 0, hw⟩
theorem sort_strs (w : World) (B : Nat) (v : Value) (xs : List (List UInt8)) (h : OwnR strE w B 9 v xs) (hl : xs.length ≤ 100000) :
    Calls Tryz.prog 33 #[v, .func (.func 34) #[] #[]] w fun e w' => e = .returned (.tuple #[]) ∧ (∃ g, (B ≤ g ∨ xs = []) ∧ SlR strE w' v g (srtS xs)) ∧ Fr v.ownBlock.toList w w' := by
  obtain ⟨g0, hg0, hsl⟩ := h.sl
  obtain ⟨h1, h2⟩ := h
  rcases h2 with ⟨rfl, hn⟩ | ⟨g, cap, cur, rfl, hb, hg, hc, hm, hs, ht⟩
  · have hx := List.eq_nil_of_length_eq_zero hn
    subst hx
    refine (AnyF.slices_SortFunc_none (P := Tryz.prog) (ρ := Tryz.sortS_ren) { Tryz.sortS with } none 0 (.func (.func 34) #[] #[]) w).mono ?_
    rintro e w' ⟨rfl, rfl⟩
    exact ⟨rfl, ⟨0, .inr rfl, .inl ⟨by simp [srtS], none, 0, rfl⟩⟩, Fr.refl _ _⟩
  · have hcell : ∀ j (hj : j < xs.length), w.cell? ⟨g, j, none⟩ = some (.string (Pa.mk xs[j])) := fun j hj => by
      rw [cell_of_row w g j cur _ _ hg]
      have h3 : cur.toList[j]? = (strE.cells xs)[j]? := by rw [← ht, List.getElem?_take, if_pos (by show j < xs.length * 1; omega)]
      have h4 := strE.cells_get xs j 0 hj (by decide)
      rw [show j * strE.k + 0 = j from by show j * 1 + 0 = j; omega] at h4
      rw [show cur[j]? = cur.toList[j]? by simp, h3, h4]
      rfl
    have hH : Holds encStr w g 0 xs.toArray := fun j hj => by
      have hj' : j < xs.length := by simpa using hj
      refine ⟨?_, free_block hg _ _⟩
      rw [Nat.zero_add, hcell j hj', getElem!_pos _ j (by simpa using hj')]
      simp [encStr_mk']
    refine (Any.slices_SortFunc_total Tryz.sortS encStr (fun _ => rfl) Lib.compareBytes swoS 34 #[] g 0 cap xs.toArray w (enters_of Tryz.func34 (by kernel_rfl) rfl) (cmpReadsS g 0 _ w).lays hH (lt_of_heap hg) (by rw [List.size_toArray]; omega) totS).mono ?_
    rintro e w' ⟨rfl, n, os, rfl⟩
    have hls : (srtS xs).length = xs.length := (srtS_perm xs).length_eq
    refine ⟨rfl, ⟨g, .inl hb, .inr ⟨0, cap, by rw [hls], by rw [hls]; exact hc, hm, fun i hi r hr => ?_⟩⟩, fr_sortS w g 0 n _ os⟩
    have hr0 : r = 0 := by have : r < 1 := hr; omega
    subst hr0
    rw [show 0 + i * strE.k + 0 = 0 + i from by show 0 + i * 1 + 0 = 0 + i; omega]
    have hp := cell?_putRow encStr (Sort.ahead w n) g 0 xs.toArray (srtS xs).toArray (holds_ahead _ w n g 0 _ hH) (by simp [hls]) i (by simpa using hi)
    have hgr : (sortWorld encStr w g 0 n (srtS xs).toArray os).cell? ⟨g, 0 + i, none⟩ = (putRow encStr (Sort.ahead w n) g 0 (srtS xs).toArray).cell? ⟨g, 0 + i, none⟩ := by
      refine World.cell?_of_block ?_
      show ((putRow _ _ _ _ _).heap ++ os)[g]? = _
      rw [Array.getElem?_append_left (by rw [size_putRow]; exact lt_of_heap hg)]
    show (sortWorld encStr w g 0 n (srtS xs).toArray os).cell? ⟨g, 0 + i, none⟩ = _
    rw [hgr, hp, getElem!_pos _ i (by simpa using hi)]
    simp [encStr_mk', strE]
end YtnglhfeialomgaaGreatDoor
end Go.Proofs
