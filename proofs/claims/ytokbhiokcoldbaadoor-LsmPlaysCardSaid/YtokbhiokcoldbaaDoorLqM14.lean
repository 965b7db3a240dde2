/- A frame by a predicate: nothing has turned but blocks of which P holds, and what is new. No program in sight. -/
import Derived.Handy
import Derived.Test.YtokbhiokcoldbaaDoorLqM01
import Derived.Test.YtokbhiokcoldbaaDoorLqM12
import Derived.Test.YtokbhiokcoldbaaDoorLqM13
namespace Go.Proofs.YtokbhiokcoldbaaDoor
open Go.RowKit

/-- From w to w' nothing has turned but blocks of which P holds, and what is new. -/
structure FrP (P : Nat → Prop) (w w' : World) : Prop where
  os : w'.os = w.os
  tape : w'.tape = w.tape
  output : w'.output = w.output
  size : w.heap.size ≤ w'.heap.size
  block : ∀ k, k < w.heap.size → ¬ P k → w'.heap[k]? = w.heap[k]?
theorem FrP.refl (P : Nat → Prop) (w : World) : FrP P w w := ⟨rfl, rfl, rfl, Nat.le_refl _, fun _ _ _ => rfl⟩
theorem FrP.step {P : Nat → Prop} {S : List Nat} {a b c : World} (h : FrP P a b) (k : Fr S b c) (hS : ∀ x ∈ S, P x ∨ a.heap.size ≤ x) : FrP P a c :=
  ⟨k.os.trans h.os, k.tape.trans h.tape, k.output.trans h.output, Nat.le_trans h.size k.size, fun i hi hn =>
    (k.block i (Nat.lt_of_lt_of_le hi h.size) (fun hx => (hS i hx).elim hn (fun h' => absurd hi (Nat.not_lt.2 h')))).trans (h.block i hi hn)⟩
theorem FrP.trans {P Q : Nat → Prop} {a b c : World} (h : FrP P a b) (k : FrP Q b c) (hQ : ∀ x, Q x → P x ∨ a.heap.size ≤ x) : FrP P a c :=
  ⟨k.os.trans h.os, k.tape.trans h.tape, k.output.trans h.output, Nat.le_trans h.size k.size, fun i hi hn =>
    (k.block i (Nat.lt_of_lt_of_le hi h.size) (fun hx => (hQ i hx).elim hn (fun h' => absurd hi (Nat.not_lt.2 h')))).trans (h.block i hi hn)⟩
theorem FrP.below {B : Nat} {w w' : World} (h : FrP (B ≤ ·) w w') (hB : B ≤ w.heap.size) : Below B w w' := ⟨h.os, h.tape, h.output, h.size, fun k hk => h.block k (by omega) (by omega)⟩
theorem FrP.fr {P : Nat → Prop} {a w w' : World} (h0 : Fr [] a w) (h : FrP P w w') (hP : ∀ k, P k → a.heap.size ≤ k) : Fr [] a w' :=
  ⟨h.os.trans h0.os, h.tape.trans h0.tape, h.output.trans h0.output, Nat.le_trans h0.size h.size, fun k hk _ => (h.block k (Nat.lt_of_lt_of_le hk h0.size) (fun hp => by have := hP k hp; omega)).trans (h0.block k hk (by simp))⟩
theorem FrP.cell {P : Nat → Prop} {w w' : World} (h : FrP P w w') {p : Addr} {v : Value} (hk : w.cell? p = some v) (hn : ¬ P p.block) : w'.cell? p = some v :=
  (World.cell?_of_block (h.block p.block (block_lt_of_cell hk) hn)).trans hk
theorem Sl.frP {P : Nat → Prop} {w w' : World} {v : Value} {g : Nat} {xs : List Int} (h : Sl w v g xs) (hf : FrP P w w') (hg : xs = [] ∨ ¬ P g) : Sl w' v g xs := by
  rcases h with h | ⟨o, c, h0, h1, h2, h3⟩
  · exact .inl h
  · rcases hg with rfl | hg
    · exact .inr ⟨o, c, h0, h1, h2, fun i hi => absurd hi (by simp)⟩
    · exact .inr ⟨o, c, h0, h1, h2, fun i hi => hf.cell (h3 i hi) hg⟩
/-- Parts of which P held at w, and new ones. -/
def OrNew (P : Nat → Prop) (w : World) (k : Nat) : Prop := P k ∨ w.heap.size ≤ k
end Go.Proofs.YtokbhiokcoldbaaDoor
/- A store of package lsm in memory: its block, the table's row, the row of runs, each run's row. -/
namespace Go.Proofs.YtokbhiokcoldbaaDoor
open Go.RowKit

section
variable {α β : Type} {E : Enc α} {F : Enc β} {w : World} {B C e f : Nat} {u v : Value} {l : List α} {m : List β}
/-- Rows of different types lie apart. -/
theorem own_type_ne {b : Nat} {cur : Array Value} {t : TypeId} {fr : Nat × Nat} (h : OwnR E w B e v l) (hg : w.heap[b]? = some (.cells cur t fr)) (hne : e ≠ t) : v.ownBlock ≠ some b := by
  rcases h.2 with ⟨rfl, _⟩ | ⟨g, cap, cur', rfl, _, hg', _⟩
  · intro e; cases e
  · intro he
    have he : g = b := by simpa [Value.ownBlock] using he
    subst he
    rw [hg] at hg'
    injection hg' with hg'
    injection hg' with _ hg' _
    exact hne hg'.symm
theorem own_apart (h : OwnR E w B e u l) (k : OwnR F w C f v m) (hne : e ≠ f) : Apart u v := fun g hg => by
  rcases h.2 with ⟨rfl, _⟩ | ⟨g', cap, cur', rfl, _, hg', _⟩
  · cases hg
  · have he : g' = g := by simpa [Value.ownBlock] using hg
    subst he
    exact own_type_ne k hg' (Ne.symm hne)
theorem OwnR.frP {P : Nat → Prop} {w' : World} (h : OwnR E w B e v l) (hf : FrP P w w') (hn : ∀ g, v.ownBlock = some g → ¬ P g) : OwnR E w' B e v l := by
  obtain ⟨h1, h2⟩ := h
  refine ⟨h1, ?_⟩
  rcases h2 with h2 | ⟨g, cap, cur, e0, hb, hg, r⟩
  · exact .inl h2
  · exact .inr ⟨g, cap, cur, e0, hb, (hf.block g (lt_of_heap hg) (hn g (by rw [e0]; rfl))).trans hg, r⟩
theorem OwnR.form (h : OwnR E w B e v l) : ∃ A c, v = .slice A l.length c := by
  rcases h.2 with ⟨rfl, hn⟩ | ⟨g, cap, cur, rfl, _⟩
  · exact ⟨none, 0, by rw [hn]⟩
  · exact ⟨_, cap, rfl⟩
theorem OwnR.base (h : OwnR E w B e v l) {C : Nat} (hC : ∀ g, v.ownBlock = some g → C ≤ g) : OwnR E w C e v l := by
  obtain ⟨h1, h2⟩ := h
  refine ⟨h1, ?_⟩
  rcases h2 with h2 | ⟨g, cap, cur, e0, hb, r⟩
  · exact .inl h2
  · exact .inr ⟨g, cap, cur, e0, hC g (by rw [e0]; rfl), r⟩
end
theorem fr_own {w w' : World} {v : Value} (hg : w.grownBy w' v.ownBlock) : Fr v.ownBlock.toList w w' := fr_grown hg
theorem mem_own {v : Value} {x : Nat} (h : x ∈ v.ownBlock.toList) : v.ownBlock = some x := by simpa using h
/-- A run: its row; not the table's. -/
structure RunIn (P : Nat → Prop) (w : World) (vm : Value) (s : SlV) (l : List (Int × Int)) : Prop where
  row : OwnR entE w 0 117 s.val l
  apart : Apart vm s.val
  inP : ∀ g, s.val.ownBlock = some g → P g
/-- Block b holds the store m; of all its blocks P holds. -/
structure LsS (P : Nat → Prop) (w : World) (b : Nat) (vm vr : Value) (vs : List SlV) (m : Ls.M) : Prop where
  gb : P b
  gm : ∀ g, vm.ownBlock = some g → P g
  gr : ∀ g, vr.ownBlock = some g → P g
  file : w.heap[b]? = some (.cells #[vm, vr, .int .i64 (m.many : Int)] 114 (0, 0))
  mem : OwnR entE w 0 117 vm m.mem
  runs : OwnR slE w 0 111 vr vs
  len : vs.length = m.runs.length
  each : ∀ i (h : i < vs.length), RunIn P w vm vs[i] (m.runs.getD i [])
def LsF (P : Nat → Prop) (w : World) (b : Nat) (m : Ls.M) : Prop := ∃ vm vr vs, LsS P w b vm vr vs m
/-- The call hands back v and leaves the store m. -/
def LsAns (P : Nat → Prop) (b : Nat) (v : Value) (m : Ls.M) (w : World) (e : Ending) (w' : World) : Prop := e = .returned v ∧ LsF (OrNew P w) w' b m ∧ FrP P w w'
section
variable {P P' Q : Nat → Prop} {w w' w2 : World} {b : Nat} {vm vr : Value} {vs : List SlV} {m : Ls.M}
theorem LsS.ne (h : LsS P w b vm vr vs m) : vm.ownBlock ≠ some b ∧ vr.ownBlock ≠ some b ∧ Apart vm vr := ⟨own_type_ne h.mem h.file (by decide), own_type_ne h.runs h.file (by decide), own_apart h.mem h.runs (by decide)⟩
theorem LsS.lt (h : LsS P w b vm vr vs m) : b < w.heap.size := lt_of_heap h.file
theorem LsS.cells (h : LsS P w b vm vr vs m) : w.cell? ⟨b, 0, none⟩ = some vm ∧ w.cell? ⟨b, 1, none⟩ = some vr ∧ w.cell? ⟨b, 2, none⟩ = some (.int .i64 (m.many : Int)) ∧ ∀ i, w.frozen? ⟨b, i, none⟩ = false := by
  refine ⟨?_, ?_, ?_, fun i => free_block h.file i none⟩ <;> (rw [cell_of_row w b _ _ _ _ h.file]; rfl)
theorem RunIn.fr {s : SlV} {l : List (Int × Int)} {S : List Nat} (h : RunIn P w vm s l) (hf : Fr S w w') (hS : ∀ x ∈ S, s.val.ownBlock ≠ some x) : RunIn P w' vm s l := ⟨h.row.kept hf hS, h.apart, h.inP⟩
theorem LsS.fr {S : List Nat} (h : LsS P w b vm vr vs m) (hf : Fr S w w') (hS : ∀ x ∈ S, ¬ P x) : LsS P w' b vm vr vs m :=
  ⟨h.gb, h.gm, h.gr, hf.get h.file (fun hm => hS b hm h.gb), h.mem.kept hf (fun x hx e => hS x hx (h.gm x e)), h.runs.kept hf (fun x hx e => hS x hx (h.gr x e)), h.len, fun i hi => (h.each i hi).fr hf (fun x hx e => hS x hx ((h.each i hi).inP x e))⟩
theorem LsS.keep (h : LsS P w b vm vr vs m) (hf : Fr [] w w') : LsS P w' b vm vr vs m := h.fr hf (by simp)
theorem LsS.frP (h : LsS P w b vm vr vs m) (hf : FrP Q w w') (hPQ : ∀ k, P k → ¬ Q k) : LsS P w' b vm vr vs m :=
  ⟨h.gb, h.gm, h.gr, (hf.block b h.lt (hPQ b h.gb)).trans h.file, h.mem.frP hf (fun g e => hPQ g (h.gm g e)), h.runs.frP hf (fun g e => hPQ g (h.gr g e)), h.len, fun i hi => ⟨(h.each i hi).row.frP hf (fun g e => hPQ g ((h.each i hi).inP g e)), (h.each i hi).apart, (h.each i hi).inP⟩⟩
theorem LsS.imp (h : LsS P w b vm vr vs m) (hp : ∀ k, P k → P' k) : LsS P' w b vm vr vs m :=
  ⟨hp _ h.gb, fun g e => hp _ (h.gm g e), fun g e => hp _ (h.gr g e), h.file, h.mem, h.runs, h.len, fun i hi => ⟨(h.each i hi).row, (h.each i hi).apart, fun g e => hp _ ((h.each i hi).inP g e)⟩⟩
theorem LsF.keep (h : LsF P w b m) (hf : Fr [] w w') : LsF P w' b m := by
  obtain ⟨_, _, _, h⟩ := h
  exact ⟨_, _, _, h.keep hf⟩
theorem LsF.imp (h : LsF P w b m) (hp : ∀ k, P k → P' k) : LsF P' w b m := by
  obtain ⟨_, _, _, h⟩ := h
  exact ⟨_, _, _, h.imp hp⟩
theorem LsF.frP (h : LsF P w b m) (hf : FrP Q w w') (hPQ : ∀ k, P k → ¬ Q k) : LsF P w' b m := by
  obtain ⟨_, _, _, h⟩ := h
  exact ⟨_, _, _, h.frP hf hPQ⟩
theorem LsAns.none {v : Value} {e : Ending} (h : LsF P w b m) (he : e = .returned v) (hf : Fr [] w w') : LsAns P b v m w e w' := ⟨he, (h.keep hf).imp (fun _ h => .inl h), (FrP.refl P w).step hf (by simp)⟩
/-- The count is set. -/
theorem LsS.count (h : LsS P w b vm vr vs m) (n : Nat) : LsS P (w.setCell ⟨b, 2, none⟩ (.int .i64 (n : Int))) b vm vr vs ⟨m.mem, m.runs, n⟩ ∧ Fr [b] w (w.setCell ⟨b, 2, none⟩ (.int .i64 (n : Int))) := by
  have hf : Fr [b] w (w.setCell ⟨b, 2, none⟩ (.int .i64 (n : Int))) := (Fr.refl _ w).setCell (.inl (by simp)) _
  obtain ⟨n1, n2, n3⟩ := h.ne
  refine ⟨⟨h.gb, h.gm, h.gr, set_block h.file _, h.mem.kept hf (by simpa using n1), h.runs.kept hf (by simpa using n2), h.len, fun i hi => (h.each i hi).fr hf (fun x hx => ?_)⟩, hf⟩
  simp only [List.mem_singleton] at hx
  subst hx
  exact own_type_ne (h.each i hi).row h.file (by decide)
/-- The table has another row. -/
theorem LsS.newMem (h : LsS P w b vm vr vs m) {vm' : Value} {l : List (Int × Int)} (hf : Fr vm.ownBlock.toList w w2) (hm : OwnR entE w2 0 117 vm' l) (hv : Moves w vm vm') :
    LsS (OrNew P w) (w2.setCell ⟨b, 0, none⟩ vm') b vm' vr vs ⟨l, m.runs, m.many⟩ ∧ FrP P w (w2.setCell ⟨b, 0, none⟩ vm') := by
  obtain ⟨n1, n2, n3⟩ := h.ne
  have hb2 := hf.get h.file (by simpa using n1)
  have hr2 := h.runs.kept hf (fun x hx => n3 x (mem_own hx))
  have hf2 : Fr [b] w2 (w2.setCell ⟨b, 0, none⟩ vm') := (Fr.refl _ w2).setCell (.inl (by simp)) _
  have n1' := own_type_ne hm hb2 (by decide)
  refine ⟨⟨.inl h.gb, fun g hg => ?_, fun g hg => .inl (h.gr g hg), set_block hb2 _, hm.kept hf2 (by simpa using n1'), hr2.kept hf2 (by simpa using n2), h.len, fun i hi => ?_⟩, ?_⟩
  · rcases hv with e | ⟨g', e1, e2⟩
    · exact .inl (h.gm g (by rw [← e]; exact hg))
    · rw [hg] at e1; injection e1 with e1; exact .inr (by omega)
  · have hi1 := h.each i hi
    have hr := hi1.row.kept hf (fun x hx => hi1.apart x (mem_own hx))
    refine ⟨hr.kept hf2 (fun x hx => ?_), fun g hg => ?_, fun g hg => .inl (hi1.inP g hg)⟩
    · simp only [List.mem_singleton] at hx
      subst hx
      exact own_type_ne hr hb2 (by decide)
    · rcases hv with e | ⟨g', e1, e2⟩
      · exact hi1.apart g (by rw [← e]; exact hg)
      · rw [hg] at e1; injection e1 with e1
        intro hq
        have := (hi1.row.ge g hq).2
        omega
  · exact ((FrP.refl P w).step hf (fun x hx => .inl (h.gm x (mem_own hx)))).step hf2 (fun x hx => by simp only [List.mem_singleton] at hx; subst hx; exact .inl h.gb)
/-- The table becomes the newest run. -/
theorem LsS.flush {A : Option Addr} {n c : Nat} (h : LsS P w b (.slice A n c) vr vs m) {vr' : Value} (hf : Fr vr.ownBlock.toList w w2) (hr : OwnR slE w2 0 111 vr' (⟨A, n, c⟩ :: vs)) (hv : Moves w vr vr') :
    LsS (OrNew P w) ((w2.setCell ⟨b, 1, none⟩ vr').setCell ⟨b, 0, none⟩ (.slice none 0 0)) b (.slice none 0 0) vr' (⟨A, n, c⟩ :: vs) ⟨[], m.mem :: m.runs, m.many⟩ ∧ FrP P w ((w2.setCell ⟨b, 1, none⟩ vr').setCell ⟨b, 0, none⟩ (.slice none 0 0)) := by
  obtain ⟨n1, n2, n3⟩ := h.ne
  have hb2 := hf.get h.file (by simpa using n2)
  have hm2 := h.mem.kept hf (fun x hx e => n3 x e (mem_own hx))
  have hf2 : Fr [b] w2 ((w2.setCell ⟨b, 1, none⟩ vr').setCell ⟨b, 0, none⟩ (.slice none 0 0)) := ((Fr.refl _ w2).setCell (.inl (by simp)) _).setCell (.inl (by simp)) _
  have n2' := own_type_ne hr hb2 (by decide)
  refine ⟨⟨.inl h.gb, fun g hg => (by cases hg), fun g hg => ?_, set_block (set_block hb2 _) _, OwnR.nil, hr.kept hf2 (by simpa using n2'), by simp [h.len], fun i hi => ?_⟩, ?_⟩
  · rcases hv with e | ⟨g', e1, e2⟩
    · exact .inl (h.gr g (by rw [← e]; exact hg))
    · rw [hg] at e1; injection e1 with e1; exact .inr (by omega)
  · cases i with
    | zero => exact ⟨hm2.kept hf2 (by simpa using n1), Apart.nil' _ _ _, fun g hg => .inl (h.gm g hg)⟩
    | succ i =>
      have hi1 := h.each i (by simpa using hi)
      have hr1 := hi1.row.kept hf (fun x hx => by
        have := own_apart hi1.row h.runs (by decide)
        intro e
        exact this x e (mem_own hx))
      refine ⟨hr1.kept hf2 (fun x hx => ?_), Apart.nil' _ _ _, fun g hg => .inl (hi1.inP g hg)⟩
      simp only [List.mem_singleton] at hx
      subst hx
      exact own_type_ne hr1 hb2 (by decide)
  · exact ((FrP.refl P w).step hf (fun x hx => .inl (h.gr x (mem_own hx)))).step hf2 (fun x hx => by simp only [List.mem_singleton] at hx; subst hx; exact .inl h.gb)
end
end Go.Proofs.YtokbhiokcoldbaaDoor

/- New, Flush, down, Put, Drop of package lsm. -/
namespace Go.Proofs.YtokbhiokcoldbaaDoor
open Go.RowKit

theorem ls_New (w : World) : Calls Tryd.prog 31 #[] w fun e w' => e = .returned (.pointer (some ⟨w.heap.size, 0, none⟩)) ∧ LsF (w.heap.size ≤ ·) w' w.heap.size Ls.new ∧ Fr [] w w' := by
  have HF : Hid (∀ W, W = w.alloc (.cells #[.slice none 0 0, .slice none 0 0, .int .i64 0] 114) → LsF (w.heap.size ≤ ·) W w.heap.size Ls.new ∧ Fr [] w W) := fun W hW => by
    subst hW
    exact ⟨⟨_, _, [], ⟨Nat.le_refl _, fun g hg => (by cases hg), fun g hg => (by cases hg), heap_alloc_new w _, OwnR.nil, OwnR.nil, rfl, fun i hi => (by simp at hi)⟩⟩, (Fr.refl _ _).alloc _⟩
  go_enter Tryd.func31, Tryd.ntmps31
  go_wp2
  go_ret
  exact ⟨rfl, HF.out _ rfl⟩
set_option maxRecDepth 100000 in
set_option maxHeartbeats 4000000 in
theorem ls_Flush (w : World) (P : Nat → Prop) (b : Nat) (m : Ls.M) (h : LsF P w b m) (hl : m.runs.length ≤ 1000) (hml : m.mem.length ≤ 1000) :
    Calls Tryd.prog 34 #[.pointer (some ⟨b, 0, none⟩)] w (LsAns P b (.tuple #[]) (Ls.flush m) w) := by
  obtain ⟨vm, vr, vs, hS⟩ := h
  have HS := Lib.hid hS
  obtain ⟨c0, c1, c2, cf⟩ := hS.cells
  obtain ⟨A, c, rfl⟩ := hS.mem.form
  obtain ⟨A2, k2, rfl⟩ := hS.runs.form
  have hvl := hS.len
  by_cases hm : m.mem = []
  · have HE : Hid (LsAns P b (.tuple #[]) (Ls.flush m) w (.returned (.tuple #[])) w) := by
      unfold Ls.flush
      rw [if_pos hm]
      exact LsAns.none ⟨_, _, _, hS⟩ rfl (Fr.refl _ _)
    have hz : m.mem.length = 0 := by rw [hm]; rfl
    rw [hz] at c0
    clear hS hm HS
    go_enter Tryd.func34, Tryd.ntmps34
    go_wp2
    go_returns
    exact HE.out
  · have hp := List.length_pos_iff.2 hm
    have hpI : (0 : Int) < m.mem.length := by omega
    have hEq : Hid (Ls.flush m = ⟨[], m.mem :: m.runs, m.many⟩) := by unfold Ls.flush; exact if_neg hm
    have HCE : Hid (∀ W, Fr (Value.slice A2 vs.length k2).ownBlock.toList w W → W.cell? ⟨b, 0, none⟩ = some (.slice A m.mem.length c) ∧ W.cell? ⟨b, 1, none⟩ = some (.slice A2 vs.length k2) ∧ ∀ i, W.frozen? ⟨b, i, none⟩ = false) := fun W hW => by
      have hb := hW.get hS.file (by simpa using hS.ne.2.1)
      refine ⟨?_, ?_, fun i => free_block hb i none⟩ <;> (rw [cell_of_row W b _ _ _ _ hb]; rfl)
    obtain ⟨w1, hw1⟩ : ∃ w1, (w.alloc (.cells #[.slice A m.mem.length c] 111)).drew = w1 := ⟨_, rfl⟩
    have hf1 : Fr [] w w1 := by rw [← hw1]; exact ((Fr.refl [] w).alloc _).drew
    have HI := Lib.hid (insT w1 0 (.slice A2 vs.length k2) 0 vs ⟨A, m.mem.length, c⟩ w.heap.size (hS.runs.kept hf1 (by simp)) (Nat.zero_le _) (by rw [← hw1]; exact heap_alloc_new w _) (fun e => by have := (hS.runs.ge _ e).2; omega) (by omega) (Nat.zero_le _))
    have HF1 := Lib.hid hf1
    have HW1 := Lib.hid hw1
    clear hS hm hw1 hf1 hvl
    go_enter Tryd.func34, Tryd.ntmps34
    go_wp2_with fail
    (refine wp_region_mix (Fr (Value.slice A2 vs.length k2).ownBlock.toList w ·) 11 [(true, 0), (true, 1), (true, 2), (true, 3), (true, 4), (true, 5), (true, 6), (true, 7), (true, 8), (false, 9), (false, 10)] (by kernel_rfl) (by kernel_rfl) ((Fr.refl _ _).drew) ?_; simp only [pickOps, List.map_cons, List.map_nil, List.getD_cons_zero, List.getD_cons_succ, List.drop_succ_cons, List.drop_zero])
    (iterate 9 (first | (refine wpMix_take (v := ?_) (by rfl) ?_ ?_; rotate_left; (focus (intro W hW; obtain ⟨q0, q1, q3⟩ := HCE.out W hW; go_simp; (try with_reducible rfl); done)); try simp only [Act.put, List.setIfInBounds_toArray, List.set_cons_zero, List.set_cons_succ]) | (refine wpMix_leave (by rfl) ?_; try simp only [Act.put, List.setIfInBounds_toArray, List.set_cons_zero, List.set_cons_succ])))
    refine wpMix_walk ?_
    go_wp2
    rw [HW1.out]
    refine MixQ.mk (HF1.out.nil) ?_
    refine wpMix_walk ?_
    go_wp2_with (go_at_call 69; (with_reducible refine useC HI.out ?_); intro e2 w2 h2; have HA := Lib.hid (h2.of HF1.out); obtain ⟨⟨v', rfl, _, _⟩, _⟩ := h2)
    obtain ⟨⟨v2, e2, hr, hv⟩, hg⟩ := HA.out
    injection e2 with e2
    subst e2
    obtain ⟨A3, k3, rfl⟩ := hr.form
    have hF := fr_own hg
    have HFL := Lib.hid (HS.out.flush hF hr hv)
    have HF2 := Lib.hid hF
    clear hr hv hg hF
    refine MixQ.mk (HF2.out) ?_
    refine wpMix_nil ?_
    obtain ⟨q0, q1, q3⟩ := HCE.out w2 HF2.out
    clear HA
    go_wp2
    go_returns
    rw [hEq.out]
    exact ⟨rfl, ⟨_, _, _, HFL.out.1⟩, HFL.out.2⟩
/-- The error that a number stands for (0: none). -/
theorem down_codes (m : Ls.M) (e : Ls.E) : Ls.downErr m e = 0 ∨ Ls.downErr m e = 1 ∨ Ls.downErr m e = 4 := by
  unfold Ls.downErr
  split
  · split
    · exact .inr (.inr rfl)
    · exact .inl rfl
  · exact .inr (.inl rfl)
end Go.Proofs.YtokbhiokcoldbaaDoor
