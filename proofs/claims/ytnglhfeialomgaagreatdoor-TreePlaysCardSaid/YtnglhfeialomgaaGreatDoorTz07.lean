/- path.Parts. -/
import Derived.RangeFuncNested
import Derived.Test.YtnglhfeialomgaaGreatDoorTz05
import Derived.Test.YtnglhfeialomgaaGreatDoorTz06
namespace Go.Proofs.YtnglhfeialomgaaGreatDoor
open Go.RowKit Go.Shelf
attribute [local go_sem] Oper.semAt_some

/-- A text as an element of a row. -/
def strE : Enc (List UInt8) where
  k := 1
  enc := fun l => [.string (Pa.mk l)]
  len := fun _ => rfl
  one := fun l v hv => by simp only [List.mem_singleton] at hv; subst hv; rfl
  pos := by decide
/-- What Parts hands back. -/
def PaP (s : List UInt8) (w : World) (e : Ending) (w' : World) : Prop := ∃ v g, e = .returned (.tuple #[v, errV (Pa.parts s).2]) ∧ SlR strE w' v g (Pa.parts s).1 ∧ Fr [] w w'
/-- The variables of Parts, while it goes on; out: what is left so far. -/
structure PaI (w W : World) (out : List (List UInt8)) : Prop where
  r0 : W.heap[w.heap.size]? = some (.cells #[.slice none 0 0] 30 (0, 0))
  r1 : W.heap[w.heap.size + 1]? = some (.cells #[.nilIface] 39 (0, 0))
  row : ∃ v, W.heap[w.heap.size + 2]? = some (.cells #[v] 30 (0, 0)) ∧ OwnR strE W (w.heap.size + 6) 9 v out
  fr : Fr [] w W
  sz : w.heap.size + 6 ≤ W.heap.size
theorem fr_more {S : List Nat} {w w' : World} (h : Fr [] w w') : Fr S w w' := ⟨h.os, h.tape, h.output, h.size, fun k hk _ => h.block k hk (by simp)⟩
theorem fr_keeps {w w' : World} (h : Fr [] w w') : KeepsOthers w w' := ⟨h.size, fun k o hk _ => (h.block k (lt_of_heap hk) (by simp)).trans hk⟩
theorem OwnR.cells {α : Type} {E : Enc α} {w w' : World} {B e : Nat} {v : Value} {l : List α} (h : OwnR E w B e v l) (hf : ∀ (k : Nat) (o : Obj), B ≤ k → w.heap[k]? = some o → o.isCells = true → w'.heap[k]? = some o) : OwnR E w' B e v l := by
  obtain ⟨h1, h2⟩ := h
  refine ⟨h1, ?_⟩
  rcases h2 with h2 | ⟨g, cap, cur, rfl, hb, hg, r⟩
  · exact .inl h2
  · exact .inr ⟨g, cap, cur, rfl, hb, hf _ _ hb hg rfl, r⟩
theorem PaI.keep {w W W' : World} {out : List (List UInt8)} (h : PaI w W out) (hf : Fr [w.heap.size + 3] W W') : PaI w W' out := by
  obtain ⟨v, h1, h2⟩ := h.row
  refine ⟨hf.get h.r0 (by simp), hf.get h.r1 (by simp), ⟨v, hf.get h1 (by simp), h2.kept hf (fun g hg hv => ?_)⟩, h.fr.step hf (fun x hx => by simp at hx; subst hx; exact .inr (by omega)), Nat.le_trans h.sz hf.size⟩
  simp only [List.mem_singleton] at hg
  have := (h2.ge g hv).1
  omega
theorem PaI.cells {w W W' : World} {out : List (List UInt8)} {B : Nat} (h : PaI w W out) (hB : w.heap.size ≤ B) (hf : ∀ (k : Nat) (o : Obj), W.heap[k]? = some o → o.isCells = true → W'.heap[k]? = some o) {row : Option Nat} (hg : W.grownBy W' row) (hr : ∀ r, row = some r → B ≤ r) : PaI w W' out := by
  obtain ⟨v, h1, h2⟩ := h.row
  exact ⟨hf _ _ h.r0 rfl, hf _ _ h.r1 rfl, ⟨v, hf _ _ h1 rfl, h2.cells (fun k o _ hk ho => hf k o hk ho)⟩, h.fr.grown hg (fun g e => .inr (Nat.le_trans hB (hr g e))), Nat.le_trans h.sz hg.size⟩
/-- What Parts leaves where a piece is no name. -/
structure PaX (w W : World) : Prop where
  r0 : W.heap[w.heap.size]? = some (.cells #[.slice none 0 0] 30 (0, 0))
  r1 : W.heap[w.heap.size + 1]? = some (.cells #[.iface 66 (.int .i64 2)] 39 (0, 0))
  fr : Fr [] w W
theorem mk_toList (x : List UInt8) : (Pa.mk x).toList = x := by rw [ByteArray.toList_eq]; exact Pa.mk_list x
theorem cells_grown {B : Nat} {w w' : World} {row : Option Nat} (hg : w.grownBy w' row) (hr : ∀ r, row = some r → B ≤ r ∧ ∃ o : Obj, w.heap[r]? = some o ∧ o.isCells = false) : ∀ (k : Nat) (o : Obj), w.heap[k]? = some o → o.isCells = true → w'.heap[k]? = some o := fun k o hk ho =>
  (hg.block k (lt_of_heap hk) (fun e => by
    obtain ⟨_, o', h1, h2⟩ := hr k e.symm
    rw [hk] at h1
    cases h1
    rw [ho] at h2
    cases h2)).trans hk
/-- The world where the loop of Parts begins. -/
def paW (w : World) (sa : ByteArray) : World := ((((((w.alloc (.cells #[.slice none 0 0] 30)).alloc (.cells #[.nilIface] 39)).alloc (.cells #[.slice none 0 0] 30)).alloc (.cells #[.string sa] 9)).alloc (.cells #[.string ⟨#[47]⟩] 9)).alloc (.cells #[.int .i64 0] 3))
theorem paW_size (w : World) (sa : ByteArray) : (paW w sa).heap.size = w.heap.size + 6 := by simp [paW]
theorem paW_get (w : World) (sa : ByteArray) : (paW w sa).heap[w.heap.size]? = some (.cells #[.slice none 0 0] 30 (0, 0)) ∧ (paW w sa).heap[w.heap.size + 1]? = some (.cells #[.nilIface] 39 (0, 0)) ∧ (paW w sa).heap[w.heap.size + 2]? = some (.cells #[.slice none 0 0] 30 (0, 0)) ∧
    (paW w sa).heap[w.heap.size + 3]? = some (.cells #[.string sa] 9 (0, 0)) ∧ (paW w sa).heap[w.heap.size + 4]? = some (.cells #[.string ⟨#[47]⟩] 9 (0, 0)) ∧ (paW w sa).heap[w.heap.size + 5]? = some (.cells #[.int .i64 0] 3 (0, 0)) := by
  unfold paW
  generalize h1 : w.alloc (.cells #[.slice none 0 0] 30) = w1
  generalize h2 : w1.alloc (.cells #[.nilIface] 39) = w2
  generalize h3 : w2.alloc (.cells #[.slice none 0 0] 30) = w3
  generalize h4 : w3.alloc (.cells #[.string sa] 9) = w4
  generalize h5 : w4.alloc (.cells #[.string ⟨#[47]⟩] 9) = w5
  generalize h6 : w5.alloc (.cells #[.int .i64 0] 3) = w6
  have s1 : w1.heap.size = w.heap.size + 1 := by rw [← h1]; simp
  have s2 : w2.heap.size = w.heap.size + 2 := by rw [← h2]; simp [s1]
  have s3 : w3.heap.size = w.heap.size + 3 := by rw [← h3]; simp [s2]
  have s4 : w4.heap.size = w.heap.size + 4 := by rw [← h4]; simp [s3]
  have s5 : w5.heap.size = w.heap.size + 5 := by rw [← h5]; simp [s4]
  have f2 : Fr [] w1 w2 := by rw [← h2]; exact (Fr.refl _ _).alloc _
  have f3 : Fr [] w2 w3 := by rw [← h3]; exact (Fr.refl _ _).alloc _
  have f4 : Fr [] w3 w4 := by rw [← h4]; exact (Fr.refl _ _).alloc _
  have f5 : Fr [] w4 w5 := by rw [← h5]; exact (Fr.refl _ _).alloc _
  have f6 : Fr [] w5 w6 := by rw [← h6]; exact (Fr.refl _ _).alloc _
  have e1 := heap_alloc_new w (.cells #[.slice none 0 0] 30)
  have e2 := heap_alloc_new w1 (.cells #[.nilIface] 39)
  have e3 := heap_alloc_new w2 (.cells #[.slice none 0 0] 30)
  have e4 := heap_alloc_new w3 (.cells #[.string sa] 9)
  have e5 := heap_alloc_new w4 (.cells #[.string ⟨#[47]⟩] 9)
  have e6 := heap_alloc_new w5 (.cells #[.int .i64 0] 3)
  rw [h1] at e1
  rw [h2, s1] at e2
  rw [h3, s2] at e3
  rw [h4, s3] at e4
  rw [h5, s4] at e5
  rw [h6, s5] at e6
  exact ⟨((((f2.trans f3).trans f4).trans f5).trans f6).get e1 (by simp), (((f3.trans f4).trans f5).trans f6).get e2 (by simp), ((f4.trans f5).trans f6).get e3 (by simp), (f5.trans f6).get e4 (by simp), f6.get e5 (by simp), e6⟩
theorem paW_fr (w : World) (s1 : ByteArray) : Fr [] w (paW w s1) := ((((((Fr.refl [] w).alloc _).alloc _).alloc _).alloc _).alloc _).alloc _
theorem paW_I (w : World) (s1 : ByteArray) : PaI w (paW w s1) [] := by
  obtain ⟨a, b, c, -⟩ := paW_get w s1
  exact ⟨a, b, ⟨_, c, OwnR.nil⟩, paW_fr w s1, by rw [paW_size]; exact Nat.le_refl _⟩
theorem paW_B (w : World) (l : List UInt8) : SpB (w.heap.size + 3) (paW w (Pa.mk l)) l := by
  obtain ⟨-, -, -, a, b, c⟩ := paW_get w (Pa.mk l)
  exact ⟨a, by rw [cell_of_row _ _ _ _ _ _ b]; rfl, by rw [cell_of_row _ _ _ _ _ _ c]; rfl⟩
theorem grown_refl (W : World) (r : Option Nat) : W.grownBy W r := ⟨rfl, rfl, rfl, Nat.le_refl _, fun _ _ _ => rfl⟩
theorem OwnR.capLe {α : Type} {E : Enc α} {w : World} {B e n c : Nat} {A : Option Addr} {l : List α} (h : OwnR E w B e (.slice A n c) l) : l.length ≤ c := by
  obtain ⟨_, h2⟩ := h
  rcases h2 with ⟨he, h0⟩ | ⟨g, cap, cur, he, hb, hg, hc, _⟩
  · omega
  · injection he with _ _ e3
    omega
theorem PaI.store {w W W' : World} {out out' : List (List UInt8)} {v v' : Value} (h : PaI w W out) (b2 : W.heap[w.heap.size + 2]? = some (.cells #[v] 30 (0, 0))) (hown : OwnR strE W (w.heap.size + 6) 9 v out)
    (hg : W.grownBy W' v.ownBlock) (ho : OwnR strE W' (w.heap.size + 6) 9 v' out') :
    PaI w (W'.setCell ⟨w.heap.size + 2, 0, none⟩ v') out' ∧ Kb (w.heap.size + 3) W (W'.setCell ⟨w.heap.size + 2, 0, none⟩ v') ∧ KeepsOthers W (W'.setCell ⟨w.heap.size + 2, 0, none⟩ v') := by
  have hf : Fr v.ownBlock.toList W W' := ⟨hg.os, hg.tape, hg.output, hg.size, fun k hk hn => hg.block k hk (fun e => hn (by rw [← e]; simp))⟩
  have hge : ∀ x ∈ v.ownBlock.toList, w.heap.size + 6 ≤ x := fun x hx => by
    cases ho' : v.ownBlock with
    | none => rw [ho'] at hx; simp at hx
    | some b => rw [ho'] at hx; simp at hx; subst hx; exact (hown.ge _ ho').1
  have hn : ∀ k, k < w.heap.size + 6 → k ∉ v.ownBlock.toList := fun k hk hx => by have := hge k hx; omega
  have hs : Fr [w.heap.size + 2] W' (W'.setCell ⟨w.heap.size + 2, 0, none⟩ v') := (Fr.refl _ _).setCell (.inl (by simp)) _
  refine ⟨⟨hs.get (hf.get h.r0 (hn _ (by omega))) (by simp), hs.get (hf.get h.r1 (hn _ (by omega))) (by simp), ⟨v', set_block (hf.get b2 (hn _ (by omega))) v', ho.kept hs (fun g hg hv => ?_)⟩, (h.fr.step hf (fun x hx => .inr (by have := hge x hx; omega))).step hs (fun x hx => .inr (by simp at hx; omega)), Nat.le_trans h.sz (Nat.le_trans hf.size hs.size)⟩, fun k h1 h2 => ?_, (hown.keeps hg).trans (KeepsOthers.setCell _ _ _)⟩
  · simp only [List.mem_singleton] at hg
    have := (ho.ge g hv).1
    omega
  · have hk : k < W.heap.size := by have := h.sz; omega
    exact (Below.heap_setCell W' ⟨w.heap.size + 2, 0, none⟩ v' k (by show k ≠ w.heap.size + 2; omega)).trans (hf.block k hk (hn k (by omega)))
theorem PaI.bad {w W : World} {out : List (List UInt8)} (h : PaI w W out) : PaX w ((W.setCell ⟨w.heap.size, 0, none⟩ (.slice none 0 0)).setCell ⟨w.heap.size + 1, 0, none⟩ (.iface 66 (.int .i64 2))) := by
  have h1 : Fr [w.heap.size] W (W.setCell ⟨w.heap.size, 0, none⟩ (.slice none 0 0)) := (Fr.refl _ _).setCell (.inl (by simp)) _
  have h2 : Fr [w.heap.size + 1] (W.setCell ⟨w.heap.size, 0, none⟩ (.slice none 0 0)) ((W.setCell ⟨w.heap.size, 0, none⟩ (.slice none 0 0)).setCell ⟨w.heap.size + 1, 0, none⟩ (.iface 66 (.int .i64 2))) := (Fr.refl _ _).setCell (.inl (by simp)) _
  exact ⟨h2.get (set_block h.r0 _) (by simp), set_block (h1.get h.r1 (by simp)) _, (h.fr.step h1 (fun x hx => .inr (by simp at hx; omega))).step h2 (fun x hx => .inr (by simp at hx; omega))⟩
theorem info_str : (Tryz.prog.info? 9).map (fun i => (i.zero, i.size, i.bytes)) = some (some (.string ByteArray.empty), 1, 16) := by kernel_rfl
theorem pa_results (tmps : Array Value) (W : World) (b0 b1 : Nat) (x y : Value) (h2 : tmps.getD 2 undef = .pointer (some ⟨b0, 0, none⟩)) (h3 : tmps.getD 3 undef = .pointer (some ⟨b1, 0, none⟩)) (hx : W.cell? ⟨b0, 0, none⟩ = some x) (hy : W.cell? ⟨b1, 0, none⟩ = some y) :
    (results Tryz.f49 tmps).run Tryz.prog W = .ok (.tuple #[x, y]) W := by
  have h : Tryz.f49.results = #[.cell 2 30, .cell 3 39] := rfl
  rw [Array.getD_eq_getD_getElem?] at h2 h3
  simp only [results, h]
  simp [Sem.run_bind, Result.andThen, h2, h3, asAddr, loadVar, isAgg, underlying, Tryz.underlying30, Tryz.underlying39, hx, hy]
theorem pa_out {tmps : Array Value} {W w : World} {s : List UInt8} {x : Value} {l : List (List UInt8)} {c : Int} {B : Nat} (h2 : tmps.getD 2 undef = .pointer (some ⟨w.heap.size, 0, none⟩)) (h3 : tmps.getD 3 undef = .pointer (some ⟨w.heap.size + 1, 0, none⟩))
    (hx : W.heap[w.heap.size]? = some (.cells #[x] 30 (0, 0))) (hy : W.heap[w.heap.size + 1]? = some (.cells #[errV c] 39 (0, 0))) (hp : Pa.parts s = (l, c)) (ho : OwnR strE W B 9 x l) (hf : Fr [] w W) :
    bodyPostM Fence.wide 8 Tryz.prog Tryz.f49 (PaP s w) .ret { tmps := tmps, defers := [] } W := by
  obtain ⟨g, _, hs⟩ := ho.sl
  refine ⟨_, pa_results tmps W _ _ x (errV c) h2 h3 (by rw [cell_of_row _ _ _ _ _ _ hx]; rfl) (by rw [cell_of_row _ _ _ _ _ _ hy]; rfl), x, g, ?_, ?_, hf⟩
  · rw [hp]
  · rw [hp]; exact hs
theorem pa_outD {tmps : Array Value} {W w : World} {s : List UInt8} {x : Value} {l : List (List UInt8)} {c : Int} {B D : Nat} (h2 : tmps.getD 2 undef = .pointer (some ⟨w.heap.size, 0, none⟩)) (h3 : tmps.getD 3 undef = .pointer (some ⟨w.heap.size + 1, 0, none⟩))
    (hx : W.heap[w.heap.size]? = some (.cells #[x] 30 (0, 0))) (hy : W.heap[w.heap.size + 1]? = some (.cells #[errV c] 39 (0, 0))) (hp : Pa.parts s = (l, c)) (ho : OwnR strE W B 9 x l) (hf : Fr [] w W)
    (hK : W.heap[D]? = some (.deferred (some []))) (hD : w.heap.size + 2 ≤ D) :
    bodyPostM Fence.wide 8 Tryz.prog Tryz.f49 (PaP s w) .ret { tmps := tmps, defers := [{ target := .collected D, args := #[] }] } W := by
  have hg := grownBy_putObj' W D (.deferred none)
  have hc := cells_grown (B := 0) hg (fun r e => by cases e; exact ⟨Nat.zero_le _, _, hK, rfl⟩)
  exact ⟨by simp, .inl ⟨_, _, rfl, run_takeDeferred hK, pa_out h2 h3 (hc _ _ hx rfl) (hc _ _ hy rfl) hp (ho.cells (fun k o _ hk ho => hc k o hk ho)) (hf.grown hg (fun g e => by cases e; exact .inr (by omega)))⟩⟩
set_option maxRecDepth 100000 in
set_option maxHeartbeats 4000000 in
theorem pa_Parts (s : ByteArray) (w : World) : Calls Tryz.prog 49 #[.string s] w (PaP s.data.toList w) := by
  have hsz := Lib.size_eq s
  by_cases h60 : 60 < s.size
  · have hp : Pa.parts s.data.toList = ([], 4) := if_pos (by omega)
    have HP := Lib.hid hp
    have h60I : (60 : Int) < s.size := by omega
    clear hp h60 hsz
    refine (callsIn_wide (n := 8)).1 ?_
    refine callsIn_of_wp_marks Tryz.func49 rfl trivial ?_ rfl
    simp only [Tryz.ntmps49, List.size_toArray, List.length_cons, List.length_nil, Nat.reduceAdd, Nat.reduceSub, Array.replicate_succ, Array.replicate_zero, List.push_toArray, List.append_toArray, List.nil_append, List.cons_append]
    gi_wp2
    have f1 : Fr [] (w.alloc (.cells #[.slice none 0 0] 30)) ((w.alloc (.cells #[.slice none 0 0] 30)).alloc (.cells #[.iface 66 (.int .i64 4)] 39)) := (Fr.refl _ _).alloc _
    have e2 := heap_alloc_new (w.alloc (.cells #[.slice none 0 0] 30)) (.cells #[.iface 66 (.int .i64 4)] 39)
    rw [World.size_alloc] at e2
    exact pa_out (c := 4) rfl rfl (f1.get (heap_alloc_new w _) (by simp)) e2 HP.out (OwnR.nil (B := 0)) (((Fr.refl [] w).alloc _).alloc _)
  · by_cases h47 : s.data.toList.head? = some 47
    · have HH : Hid (∀ W, Calls Tryz.prog 70 #[.string s, .string ⟨#[47]⟩] W fun e w' => e = .returned (.bool true) ∧ w' = W) := fun W => by
        have := has_prefix s ⟨#[47]⟩ W
        rw [show Lib.hasPrefix s.data.toList (⟨#[47]⟩ : ByteArray).data.toList = true from by
          rw [Pa.head_tail h47]; rfl] at this
        exact this
      have h60I : ¬ (60 : Int) < s.size := by omega
      have h1I : (1 : Int) ≤ s.size := by
        have := Pa.head_tail h47
        have : s.data.toList.length = s.data.toList.tail.length + 1 := by rw [this]; simp
        omega
      have HSZ := Lib.hid hsz
      have H47 := Lib.hid h47
      have H60 := Lib.hid h60
      clear hsz h47 h60
      refine (callsIn_wide (n := 8)).1 ?_
      refine callsIn_of_wp_marks Tryz.func49 rfl trivial ?_ rfl
      simp only [Tryz.ntmps49, List.size_toArray, List.length_cons, List.length_nil, Nat.reduceAdd, Nat.reduceSub, Array.replicate_succ, Array.replicate_zero, List.push_toArray, List.append_toArray, List.nil_append, List.cons_append]
      gi_wp2_with (first
        | (refine ⟨trivial, ?_⟩; gi_at_call 70; refine (callsIn_wide.2 (HH.out _)).mono ?_; rintro e w2 ⟨rfl, rfl⟩)
        | (refine ⟨trivial, ?_⟩; gi_at_call 71; refine (callsIn_wide.2 (split_make _ _)).mono ?_; rintro e w2 ⟨rfl, rfl⟩))
      have hm1 : s.extract 1 s.size = Pa.mk s.data.toList.tail := by
        have := mk_drop s.data.toList 1
        rw [Pa.mk_of, ← HSZ.out, List.drop_one] at this
        exact this
      rw [hm1]
      have hlen1 : s.data.toList.tail.length ≤ 1000 := by
        have h1 := HSZ.out
        have h2 := H60.out
        rw [List.length_tail]
        omega
      have HCUT : Hid (∀ xs, xs = Pa.cut s.data.toList.tail → ∀ l, Pa.run [] xs = some l → (l.length ≤ 8 → Pa.parts s.data.toList = (l, 0)) ∧ (8 < l.length → Pa.parts s.data.toList = ([], 4))) := fun xs hxs l hr => by
        subst hxs
        have h60 : ¬ 60 < s.data.toList.length := by rw [← HSZ.out]; exact H60.out
        unfold Pa.parts
        rw [if_neg h60, if_pos H47.out, hr]
        exact ⟨fun h => if_neg (by omega), fun h => if_pos h⟩
      have HBAD : Hid (∀ ys, ys <+: Pa.cut s.data.toList.tail → Pa.run [] ys = none → Pa.parts s.data.toList = ([], 2)) := fun ys ⟨t, ht⟩ hr => by
        have h60 : ¬ 60 < s.data.toList.length := by rw [← HSZ.out]; exact H60.out
        unfold Pa.parts
        rw [if_neg h60, if_pos H47.out, ← ht, Pa.run_append, hr]
        rfl
      generalize s.data.toList.tail = l0 at *
      simp only [Nat.add_assoc, Nat.reduceAdd]
      have hWs := paW_size w (Pa.mk l0)
      have hWI := paW_I w (Pa.mk l0)
      have hWB := paW_B w l0
      obtain ⟨W0, hW0⟩ : ∃ W0, paW w (Pa.mk l0) = W0 := ⟨_, rfl⟩
      rw [show ((((((w.alloc (.cells #[.slice none 0 0] 30)).alloc (.cells #[.nilIface] 39)).alloc (.cells #[.slice none 0 0] 30)).alloc (.cells #[.string (Pa.mk l0)] 9)).alloc (.cells #[.string ⟨#[47]⟩] 9)).alloc (.cells #[.int .i64 0] 3)) = W0 from hW0]
      rw [hW0] at hWs hWI hWB
      clear hW0 hm1
      refine wpIn_rangeFunc_box rfl (by decide) (gf := 97) (lb := #[.pointer (some ⟨w.heap.size + 4, 0, none⟩), .pointer (some ⟨w.heap.size + 3, 0, none⟩), .pointer (some ⟨w.heap.size + 5, 0, none⟩)]) rfl trivial (enters_of Tryz.func97 (by kernel_rfl) rfl)
        (split_seq 7 (by decide) (w.heap.size + 3) l0 hlen1) (by omega)
        (fun W hW => hWB.keep (fun k h1 h2 => hW k (by omega)))
        (fun h k => h.trans k) (fun W l o hl k h1 h2 => World.putObj_heap_other (by omega))
        (fun pre W => ∃ out, Pa.run [] pre = some out ∧ out.length ≤ pre.length ∧ PaI w W out)
        (fun c pre W => c = .ret ∧ Pa.run [] pre = none ∧ PaX w W)
        (fun s X Y row ⟨out, h1, h2, h3⟩ hg hr => ⟨out, h1, h2, h3.cells (by omega) (cells_grown hg hr) hg (fun r e => (hr r e).1)⟩)
        (fun c s X Y row ⟨h1, h2, h3⟩ hg hr => ⟨h1, h2, cells_grown hg hr _ _ h3.r0 rfl, cells_grown hg hr _ _ h3.r1 rfl, h3.fr.grown hg (fun g e => .inr (by have := (hr g e).1; omega))⟩)
        (fun s W v ⟨out, h1, h2, h3⟩ => ⟨out, h1, h2, h3.keep ((Fr.refl _ _).setCell (.inl (by simp)) _)⟩)
        (fun c s W v ⟨h1, h2, h3⟩ => ⟨h1, h2, setCell_else v h3.r0 (by omega), setCell_else v h3.r1 (by omega), h3.fr.step ((Fr.refl [w.heap.size + 3] _).setCell (.inl (by simp)) v) (fun x hx => by simp at hx; subst hx; exact .inr (by omega))⟩)
        ⟨[], rfl, Nat.le_refl _, hWI⟩
        (fun x => { tmps := #[.string s, undef, .pointer (some ⟨w.heap.size, 0, none⟩), .pointer (some ⟨w.heap.size + 1, 0, none⟩), .pointer (some ⟨w.heap.size + 2, 0, none⟩), .string (Pa.mk x), .string s, .int .i64 s.size, .bool false, undef, .string s, .bool true, .bool false, undef, .string s, .string (Pa.mk l0), .func (.func 97) #[] #[.pointer (some ⟨w.heap.size + 4, 0, none⟩), .pointer (some ⟨w.heap.size + 3, 0, none⟩), .pointer (some ⟨w.heap.size + 5, 0, none⟩)], .string (Pa.mk x), undef, undef, undef, undef, undef, undef, undef, undef, undef, undef, undef, undef, undef, undef, undef, undef, undef, undef, undef, undef, undef, undef, undef, undef, undef, undef, undef, undef, undef], defers := [] })
        ?assign ?body ?done ?stop
      case assign =>
        rintro l x W K hK
        gi_wp2
        exact hK
      case body =>
        rintro l pre x W ⟨out, hrun, hle, hI⟩ hlt
        have hstep : Pa.run [] (pre ++ [x]) = Pa.step (some out) x := by
          rw [Pa.run_append, hrun]
          show Pa.run out [x] = _
          rw [Pa.run_cons]
          cases Pa.step (some out) x <;> rfl
        obtain ⟨v, b2, hown⟩ := hI.row
        have hcell : W.cell? ⟨w.heap.size + 2, 0, none⟩ = some v := by rw [cell_of_row _ _ _ _ _ _ b2]; rfl
        have hHI := Lib.hid hI
        have HST := Lib.hid hstep
        have HOWN := Lib.hid hown
        have hlo : out.length ≤ 1000 := by
          have := Pa.cut_len l0
          omega
        have HNM := Lib.hid (fun W => pa_Name (Pa.mk x) W)
        rw [Pa.mk_list] at HNM
        clear hrun hI hown hstep hWI hWB HCUT HBAD
        have hq := mk_toList x
        by_cases hx1 : x = [] ∨ x = [46]
        · have HR := Lib.hid (HST.out.trans (Pa.step_skip hx1 out))
          have HPOST : Hid (ownPostG W0.heap.size (Kb (w.heap.size + 3)) (fun pre W => ∃ out, Pa.run [] pre = some out ∧ out.length ≤ pre.length ∧ PaI w W out) (fun c pre W => c = .ret ∧ Pa.run [] pre = none ∧ PaX w W) (pre ++ [x]) W .normal { tmps := #[], defers := [] } W) := ⟨KeepsFrom.refl _ _, fun k _ _ => rfl, out, HR.out, by simp; omega, hHI.out⟩
          rcases hx1 with hx1 | hx1
          · have q0 : (Pa.mk x).toList.isEmpty = true := by rw [hq, hx1]; rfl
            clear hx1 hq
            generalize Pa.mk x = m at *
            gi_wp2
            exact HPOST.out
          · have q0 : (Pa.mk x).toList.isEmpty = false := by rw [hq, hx1]; rfl
            have q1 : ((Pa.mk x).toList == [46]) = true := by rw [hq, hx1]; rfl
            clear hx1 hq
            generalize Pa.mk x = m at *
            gi_wp2
            exact HPOST.out
        · have q0 : (Pa.mk x).toList.isEmpty = false := by
            rw [hq]
            cases x with
            | nil => exact absurd (.inl rfl) hx1
            | cons _ _ => rfl
          have q1 : ((Pa.mk x).toList == [46]) = false := by rw [hq]; exact beq_eq_false_iff_ne.2 (fun e => hx1 (.inr e))
          by_cases hx2 : x = [46, 46]
          · have q2 : ((Pa.mk x).toList == [46, 46]) = true := by rw [hq]; exact beq_iff_eq.2 hx2
            have HR := Lib.hid (HST.out.trans ((congrArg (Pa.step (some out)) hx2).trans (Pa.step_up out)))
            have HFZ := Lib.hid (free_block b2 0 none)
            obtain ⟨A, c, rfl⟩ := HOWN.out.form0
            have HCUT := Lib.hid (HOWN.out.cut (n := out.length - 1) (by omega))
            have HB2 := Lib.hid b2
            have hfz := HFZ.out
            have hdl : out.take (out.length - 1) = out.dropLast := by rw [List.dropLast_eq_take]
            rw [hdl] at HCUT
            clear hx1 hx2 hq hdl b2
            generalize Pa.mk x = m at *
            have hcase : out.length = 0 ∨ ∃ k : Nat, out.length = k + 1 := by cases h : out.length with | zero => exact .inl rfl | succ k => exact .inr ⟨k, rfl⟩
            have HL := Lib.hid hle
            rcases hcase with hz | ⟨k, hk⟩
            · rw [hz] at hcell
              have HZ := Lib.hid hz
              clear hz hle hlo
              gi_wp2
              have hv : Value.slice A (max 0 (-1 : Int)).toNat c = .slice A (out.length - 1) c := by rw [HZ.out]; rfl
              rw [hv]
              obtain ⟨p1, p2, p3⟩ := hHI.out.store HB2.out HOWN.out (grown_refl W _) HCUT.out
              exact ⟨p3.from _, p2, _, HR.out, by have := HL.out; simp; omega, p1⟩
            · rw [hk] at hcell
              have k0 : (0 : Int) ≤ k := by omega
              have ew : IntKind.i64.wrap (k : Int) = k := IntWalk.i64_in _ (by omega)
              have e1 : ((k + 1 : Nat) : Int) - 1 = k := by omega
              have HK := Lib.hid hk
              have kc : (k : Int) ≤ c := by have := HOWN.out.capLe; omega
              clear hk hle
              gi_wp2
              have hv : Value.slice A k c = .slice A (out.length - 1) c := by rw [HK.out]; rfl
              rw [hv]
              obtain ⟨p1, p2, p3⟩ := hHI.out.store HB2.out HOWN.out (grown_refl W _) HCUT.out
              exact ⟨p3.from _, p2, _, HR.out, by have := HL.out; simp; omega, p1⟩
          · have q2 : ((Pa.mk x).toList == [46, 46]) = false := by rw [hq]; exact beq_eq_false_iff_ne.2 hx2
            by_cases hx3 : Pa.IsName x
            · have HR := Lib.hid (HST.out.trans (Pa.step_name hx3 out))
              rw [decide_eq_true hx3] at HNM
              obtain ⟨A, c, rfl⟩ := HOWN.out.form0
              have HC : Hid (∀ X, Fr [] W X → X.cell? ⟨w.heap.size + 2, 0, none⟩ = some (.slice A out.length c) ∧ X.frozen? ⟨w.heap.size + 2, 0, none⟩ = false ∧ X.heap[w.heap.size + 2]? = some (.cells #[.slice A out.length c] 30 (0, 0)) ∧ OwnR strE X (w.heap.size + 6) 9 (.slice A out.length c) out ∧ PaI w X out ∧ w.heap.size + 6 ≤ X.heap.size) := fun X hX => by
                have h := hHI.out.keep (fr_more hX)
                have b := hX.get b2 (by simp)
                exact ⟨by rw [cell_of_row _ _ _ _ _ _ b]; rfl, free_block b 0 _, b, HOWN.out.kept hX (by simp), h, h.sz⟩
              have HL := Lib.hid hle
              clear hx1 hx2 hx3 hq b2 hcell
              have hlo' : out.length < 1000000 := by omega
              gi_wp2_with (first
                | (refine ⟨trivial, ?_⟩; gi_at_call 72; refine (CallsIn.inRound l (callsIn_wide.2 (HNM.out _))).mono ?_; rintro e W3 ⟨rfl, hf3⟩; obtain ⟨d0, d1, d2, d3, hI3, hs3⟩ := HC.out W3 hf3; have HD2 := Lib.hid d2; have HD3 := Lib.hid d3; have HI3 := Lib.hid hI3; have HF3 := Lib.hid hf3; clear hf3 hI3 d2 d3)
                | (gi_at_builtin; refine wpListIn_push_enc (E := strE) (wr := W3) (y := x) Tryz.underlying30 info_str rfl (by decide) rfl _ _ rfl (w.heap.size + 6) (.slice A out.length c) out rfl rfl HD3.out rfl hlo' hs3 ?_; intro v' w4 h1 h2; obtain ⟨A4, c4, hv4⟩ := h1.form0; subst hv4; have HST4 := Lib.hid (HI3.out.store HD2.out HD3.out h2 h1); have b4 := h2.block (w.heap.size + 2) (lt_of_heap HD2.out) (fun e => by have := (HD3.out.ge _ e.symm).1; omega); rw [HD2.out] at b4; have d4 := cell_of_row _ _ 0 _ _ _ b4; have d4 : w4.cell? ⟨w.heap.size + 2, 0, none⟩ = some (.slice A out.length c) := (by rw [d4]; rfl); have d5 := free_block b4 0 none; clear h1 h2 b4))
              have hv : Value.slice A4 (out.length + 1) c4 = .slice A4 (out ++ [x]).length c4 := by rw [List.length_append]; rfl
              rw [hv]
              obtain ⟨p1, p2, p3⟩ := HST4.out
              exact ⟨((fr_keeps HF3.out).trans p3).from _, Kb.trans (fun k h1 h2 => HF3.out.block k (by have := hHI.out.sz; omega) (by simp)) p2, _, HR.out, by have := HL.out; simp; omega, p1⟩
            · have HR := Lib.hid (HST.out.trans (Pa.step_bad hx1 hx2 hx3 out))
              rw [decide_eq_false hx3] at HNM
              have HC : Hid (∀ X, Fr [] W X → X.cell? ⟨w.heap.size, 0, none⟩ = some (.slice none 0 0) ∧ X.frozen? ⟨w.heap.size, 0, none⟩ = false ∧ X.cell? ⟨w.heap.size + 1, 0, none⟩ = some .nilIface ∧ X.frozen? ⟨w.heap.size + 1, 0, none⟩ = false ∧ PaI w X out) := fun X hX => by
                have h := hHI.out.keep (fr_more hX)
                exact ⟨by rw [cell_of_row _ _ _ _ _ _ h.r0]; rfl, free_block h.r0 0 _, by rw [cell_of_row _ _ _ _ _ _ h.r1]; rfl, free_block h.r1 0 _, h⟩
              clear hx1 hx2 hx3 hq
              generalize Pa.mk x = m at *
              gi_wp2_with (refine ⟨trivial, ?_⟩; gi_at_call 72; refine (CallsIn.inRound l (callsIn_wide.2 (HNM.out _))).mono ?_; rintro e W3 ⟨rfl, hf3⟩; obtain ⟨d0, d1, d2, d3, hI3⟩ := HC.out W3 hf3; have HI3 := Lib.hid hI3; have HF3 := Lib.hid hf3; clear hf3 hI3)
              exact ⟨((fr_keeps HF3.out).trans ((KeepsOthers.setCell _ _ _).trans (KeepsOthers.setCell _ _ _))).from _, rfl, HR.out, HI3.out.bad⟩
      case done =>
        rintro D xs W hD hxs ⟨out, hrun, hle, hI⟩ hKD
        obtain ⟨v, b2, hown⟩ := hI.row
        obtain ⟨A, c, rfl⟩ := hown.form0
        have hcell : W.cell? ⟨w.heap.size + 2, 0, none⟩ = some (.slice A out.length c) := by rw [cell_of_row _ _ _ _ _ _ b2]; rfl
        have hc0 : W.cell? ⟨w.heap.size, 0, none⟩ = some (.slice none 0 0) := by rw [cell_of_row _ _ _ _ _ _ hI.r0]; rfl
        have hc1 : W.cell? ⟨w.heap.size + 1, 0, none⟩ = some .nilIface := by rw [cell_of_row _ _ _ _ _ _ hI.r1]; rfl
        have hf0 := free_block hI.r0 0 none
        have hf1 := free_block hI.r1 0 none
        have HP := Lib.hid (HCUT.out xs hxs out hrun)
        have HI := Lib.hid hI
        have HOWN := Lib.hid hown
        have HKD := Lib.hid hKD
        clear hxs hrun hle hI b2 hown hWI hWB HCUT HBAD hKD
        by_cases h8 : 8 < out.length
        · have h8I : (8 : Int) < out.length := by omega
          have HPP := Lib.hid (HP.out.2 h8)
          clear h8 HP
          gi_wp2
          have h1 : Fr [w.heap.size] W (W.setCell ⟨w.heap.size, 0, none⟩ (.slice none 0 0)) := (Fr.refl _ _).setCell (.inl (by simp)) _
          have h2 : Fr [w.heap.size + 1] (W.setCell ⟨w.heap.size, 0, none⟩ (.slice none 0 0)) ((W.setCell ⟨w.heap.size, 0, none⟩ (.slice none 0 0)).setCell ⟨w.heap.size + 1, 0, none⟩ (.iface 66 (.int .i64 4))) := (Fr.refl _ _).setCell (.inl (by simp)) _
          exact pa_outD rfl rfl (h2.get (set_block HI.out.r0 _) (by simp)) (set_block (h1.get HI.out.r1 (by simp)) _) HPP.out (OwnR.nil (B := 0)) ((HI.out.fr.step h1 (fun x hx => .inr (by simp at hx; omega))).step h2 (fun x hx => .inr (by simp at hx; omega))) (h2.get (h1.get HKD.out (by simp; omega)) (by simp; omega)) (by omega)
        · have h8I : ¬ (8 : Int) < out.length := by omega
          have HPP := Lib.hid (HP.out.1 (by omega))
          clear h8 HP
          gi_wp2
          have h1 : Fr [w.heap.size] W (W.setCell ⟨w.heap.size, 0, none⟩ (.slice A out.length c)) := (Fr.refl _ _).setCell (.inl (by simp)) _
          have h2 : Fr [w.heap.size + 1] (W.setCell ⟨w.heap.size, 0, none⟩ (.slice A out.length c)) ((W.setCell ⟨w.heap.size, 0, none⟩ (.slice A out.length c)).setCell ⟨w.heap.size + 1, 0, none⟩ .nilIface) := (Fr.refl _ _).setCell (.inl (by simp)) _
          exact pa_outD (c := 0) rfl rfl (h2.get (set_block HI.out.r0 _) (by simp)) (set_block (h1.get HI.out.r1 (by simp)) _) HPP.out ((HOWN.out.kept h1 (fun g hg hv => by simp only [List.mem_singleton] at hg; have := (HOWN.out.ge g hv).1; omega)).kept h2 (fun g hg hv => by simp only [List.mem_singleton] at hg; have := (HOWN.out.ge g hv).1; omega)) ((HI.out.fr.step h1 (fun x hx => .inr (by simp at hx; omega))).step h2 (fun x hx => .inr (by simp at hx; omega))) (h2.get (h1.get HKD.out (by simp; omega)) (by simp; omega)) (by omega)
      case stop =>
        rintro D c pre W hD hpre ⟨rfl, hrun, hX⟩ hKD
        gi_wp2
        exact pa_outD (c := 2) rfl rfl hX.r0 hX.r1 (HBAD.out pre hpre hrun) (OwnR.nil (B := 0)) hX.fr hKD (by omega)
    · have HH : Hid (∀ W, Calls Tryz.prog 70 #[.string s, .string ⟨#[47]⟩] W fun e w' => e = .returned (.bool false) ∧ w' = W) := fun W => by
        have := has_prefix s ⟨#[47]⟩ W
        rw [show Lib.hasPrefix s.data.toList (⟨#[47]⟩ : ByteArray).data.toList = false from by
          cases h : s.data.toList with
          | nil => rfl
          | cons b t =>
            rw [h] at h47
            have hb : b ≠ 47 := fun e => h47 (by rw [e]; rfl)
            simp [Lib.hasPrefix, List.isPrefixOf, Ne.symm hb]] at this
        exact this
      have h60I : ¬ (60 : Int) < s.size := by omega
      have HP : Hid (Pa.parts s.data.toList = ([], 2)) := by
        show Pa.parts _ = _
        unfold Pa.parts
        rw [if_neg (by omega), if_neg h47]
      clear hsz h47 h60
      refine (callsIn_wide (n := 8)).1 ?_
      refine callsIn_of_wp_marks Tryz.func49 rfl trivial ?_ rfl
      simp only [Tryz.ntmps49, List.size_toArray, List.length_cons, List.length_nil, Nat.reduceAdd, Nat.reduceSub, Array.replicate_succ, Array.replicate_zero, List.push_toArray, List.append_toArray, List.nil_append, List.cons_append]
      gi_wp2_with (refine ⟨trivial, ?_⟩; gi_at_call 70; refine (callsIn_wide.2 (HH.out _)).mono ?_; rintro e w2 ⟨rfl, rfl⟩)
      have f1 : Fr [] (w.alloc (.cells #[.slice none 0 0] 30)) ((w.alloc (.cells #[.slice none 0 0] 30)).alloc (.cells #[.iface 66 (.int .i64 2)] 39)) := (Fr.refl _ _).alloc _
      have e2 := heap_alloc_new (w.alloc (.cells #[.slice none 0 0] 30)) (.cells #[.iface 66 (.int .i64 2)] 39)
      rw [World.size_alloc] at e2
      exact pa_out (c := 2) rfl rfl (f1.get (heap_alloc_new w _) (by simp)) e2 HP.out (OwnR.nil (B := 0)) (((Fr.refl [] w).alloc _).alloc _)
end Go.Proofs.YtnglhfeialomgaaGreatDoor
