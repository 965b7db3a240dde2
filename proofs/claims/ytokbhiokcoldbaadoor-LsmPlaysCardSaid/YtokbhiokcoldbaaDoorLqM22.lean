/- Rows that are none of an object's blocks, through what the object does. -/

import Derived.Test.YtokbhiokcoldbaaDoorLqM01
import Derived.Test.YtokbhiokcoldbaaDoorLqM02
import Derived.Test.YtokbhiokcoldbaaDoorLqM14
import Derived.Test.YtokbhiokcoldbaaDoorLqM21
namespace Go.Proofs.YtokbhiokcoldbaaDoor
open Go.RowKit

/-- A row that is none of the disk's. -/
def RowO (P : Nat → Prop) (w : World) (v : Value) (xs : List Int) : Prop := ∃ g, (xs = [] ∨ (¬ P g ∧ g < w.heap.size)) ∧ Sl w v g xs
/-- The blocks behind a step. -/
def Nx (P : Nat → Prop) (wr w' : World) (k : Nat) : Prop := OrNew P wr k ∧ k < w'.heap.size
section
variable {w wr w' : World} {P : Nat → Prop} {v : Value} {xs : List Int}
theorem RowO.step (h : RowO P wr v xs) (hf : Fr [] wr w') : RowO P w' v xs := by
  obtain ⟨g, hg, hs⟩ := h
  exact ⟨g, hg.imp_right (fun hg => ⟨hg.1, Nat.lt_of_lt_of_le hg.2 hf.size⟩), hs.fr hf (by simp)⟩
theorem RowO.turn (h : RowO P wr v xs) (hf : FrP P wr w') : RowO (Nx P wr w') w' v xs := by
  obtain ⟨g, hg, hs⟩ := h
  exact ⟨g, hg.imp_right (fun hg => ⟨fun hn => hn.1.elim hg.1 (fun hp => by omega), Nat.lt_of_lt_of_le hg.2 hf.size⟩), hs.frP hf (hg.imp_right (fun hg => hg.1))⟩
theorem RowO.sl (h : RowO P w v xs) : ∃ g, Sl w v g xs := by
  obtain ⟨g, _, hs⟩ := h
  exact ⟨g, hs⟩
theorem RowO.ofR (hP : ∀ k, P k → k < wr.heap.size) {e : Ending} (hn : NewRow xs wr e w') : ∃ v, e = .returned v ∧ RowO P w' v xs ∧ Fr [] wr w' := by
  obtain ⟨v, g, rfl, hg, hs, hf⟩ := hn
  refine ⟨v, rfl, ⟨g, ?_, hs⟩, hf⟩
  by_cases hx : xs = []
  · exact .inl hx
  · refine .inr ⟨fun hp => ?_, ?_⟩
    · have := hP g hp
      have := hg.resolve_right hx
      omega
    · obtain ⟨A, o, c, rfl, -, -, hc⟩ := hs.form
      exact block_lt_of_cell (hc 0 (List.length_pos_iff.2 hx))
end
end Go.Proofs.YtokbhiokcoldbaaDoor
/- The contract of Ints: two lists held against each other. -/
namespace Go.Proofs.YtokbhiokcoldbaaDoor
open Go.RowKit

theorem ints_any (w : World) (v u : Value) (g k0 : Nat) (xs ys : List Int) (h : Sl w v g xs) (h' : Sl w u k0 ys) :
    Calls Tryd.prog 14 #[v, u] w (SameAs (decide (xs = ys)) w) := by
  obtain ⟨A, o, c, rfl, hm, hA, hc⟩ := h.form
  obtain ⟨A', o', c', rfl, hm', hA', hc'⟩ := h'.form
  clear h h'
  have HA := Lib.hid hA
  have HC := Lib.hid hc
  have HA' := Lib.hid hA'
  have HC' := Lib.hid hc'
  clear hA hc hA' hc'
  by_cases hl : xs.length = ys.length
  · have HL := Lib.hid hl
    have eL : ((xs.length : Int) != (ys.length : Int)) = false := by simp [hl]
    have hl1 : ys.length ≤ xs.length := by omega
    have hl2 : xs.length ≤ ys.length := by omega
    clear hl
    go_enter Tryd.func14, Tryd.ntmps14
    go_wp2
    go_loopw [5] (fun i wr => ∃ k : Nat, k ≤ xs.length ∧ i = .int .i64 k ∧ Dr w wr ∧ Hid (∀ j, j < k → nth xs j = nth ys j)) (fun i _ => xs.length - (intOf i).toNat)
    case atStart => exact ⟨0, Nat.zero_le _, rfl, Dr.refl _, fun j hj => absurd hj (Nat.not_lt_zero _)⟩
    case round =>
      obtain ⟨k, hk, rfl, ⟨n, rfl⟩, hno⟩ := hrel
      by_cases hlt : k < xs.length
      · obtain rfl := HA.out (by omega)
        obtain rfl := HA'.out (by omega)
        have hcell := HC.out k hlt
        have hcell' := HC'.out k (by omega)
        have hlt' : k < ys.length := by omega
        have i1 : (0 : Int) ≤ k := by omega
        have i2 : (k : Int) < xs.length := by omega
        have i3 : (k : Int) < ys.length := by omega
        by_cases he : nth xs k = nth ys k
        · have eB : (nth xs k != nth ys k) = false := by simpa using he
          have HE := Lib.hid he
          clear he
          go_wp2
          go_quiet (fail)
          go_wp2
          go_roundw
          case rel =>
            refine ⟨k + 1, by omega, by go_num, by first | exact Dr.two _ _ _ | exact Dr.one _ _, fun j hj => ?_⟩
            by_cases hjk : j = k
            · subst hjk; exact HE.out
            · exact hno.out j (by omega)
          case measure => simp [intOf]; omega
        · have eB : (nth xs k != nth ys k) = true := by simpa using he
          have HE := Lib.hid he
          clear he
          go_wp2
          go_quiet (fail)
          go_wp2
          go_ret
          exact ⟨ret_bool (by symm; apply decide_eq_false; rintro rfl; exact HE.out rfl), by first | exact Dr.two _ _ _ | exact Dr.one _ _⟩
      · go_wp2
        go_ret
        exact ⟨ret_bool (by symm; apply decide_eq_true; exact eq_of_getD HL.out (fun j hj => hno.out j (by omega))), Dr.one _ _⟩
  · have HL := Lib.hid hl
    have eL : ((xs.length : Int) != (ys.length : Int)) = true := by simp; omega
    clear hl
    go_enter Tryd.func14, Tryd.ntmps14
    go_wp2
    go_ret
    exact ⟨ret_bool (by symm; apply decide_eq_false; rintro rfl; exact HL.out rfl), Dr.refl _⟩

theorem ints_same (w : World) (v u : Value) (g k0 : Nat) (xs : List Int) (h : Sl w v g xs) (h' : Sl w u k0 xs) :
    Calls Tryd.prog 14 #[v, u] w (SameAs true w) :=
  (ints_any w v u g k0 xs xs h h').mono fun _ _ hh => by simpa [SameAs] using hh
end Go.Proofs.YtokbhiokcoldbaaDoor

/- Rows that came in, in a later world. No program in sight. -/
namespace Go.Proofs.YtokbhiokcoldbaaDoor
open Go.RowKit
theorem RwF.wider {B C : Nat} {w : World} {A : Option Addr} {g o : Nat} {ls : List (List Int)} (h : RwF B w A g o ls) (hB : B ≤ C) : RwF C w A g o ls :=
  ⟨fun h0 => ⟨(h.1 h0).1, Nat.lt_of_lt_of_le (h.1 h0).2 hB⟩, fun i hi => by
    obtain ⟨u, k, h1, h2, h3, h4⟩ := h.2 i hi
    exact ⟨u, k, h1, h2.imp_left (fun hk => Nat.lt_of_lt_of_le hk hB), h3, h4⟩⟩
theorem Rw.mono1 {w w' : World} {v : Value} {ls : List (List Int)} (h : Rw w.heap.size w v ls) (hf : Fr [] w w') : Rw w'.heap.size w' v ls := by
  obtain ⟨A, g, o, c, h1, h2, h3⟩ := h.below hf.below
  exact ⟨A, g, o, c, h1, h2, h3.wider hf.size⟩
end Go.Proofs.YtokbhiokcoldbaaDoor

/- The contract of core.All at a row of numbers. -/
namespace Go.Proofs.YtokbhiokcoldbaaDoor
open Go.RowKit

theorem sl_new {w : World} {g : Nat} {t : TypeId} {fr : Nat × Nat} (xs : List Int) (h : w.heap[g]? = some (.cells (ints xs) t fr)) (hl : xs.length ≤ maxLen) : Sl w (.slice (some ⟨g, 0, none⟩) xs.length xs.length) g xs :=
  .inr ⟨0, xs.length, rfl, Nat.le_refl _, hl, fun i hi => by rw [Nat.zero_add]; exact cell_ints h hi⟩
/-- Are all within bounds? -/
def allIn (xs : List Int) (lo hi : Int) : Bool := xs.all fun x => decide (lo ≤ x ∧ x ≤ hi)
theorem allIn_cut {xs : List Int} {lo hi : Int} {k : Nat} (hk : k < xs.length) (h : decide (lo ≤ nth xs k ∧ nth xs k ≤ hi) = false) : allIn xs lo hi = false := by
  unfold allIn
  rw [List.all_eq_false]
  exact ⟨nth xs k, getD_mem hk, by rw [h]; decide⟩
theorem allIn_full {xs : List Int} {lo hi : Int} (h : ∀ k, k < xs.length → decide (lo ≤ nth xs k ∧ nth xs k ≤ hi) = true) : allIn xs lo hi = true := by
  unfold allIn
  rw [List.all_eq_true]
  intro x hx
  obtain ⟨k, hk, e⟩ := List.getElem_of_mem hx
  have := h k hk
  rw [show nth xs k = x by simp [nth, List.getD, hk, e]] at this
  exact this
theorem all_any (w : World) (v : Value) (g : Nat) (xs : List Int) (lo hi : Int) (h : Sl w v g xs) :
    Calls Tryd.prog 50 #[v, .int .i64 lo, .int .i64 hi] w fun e w' => e = .returned (.bool (allIn xs lo hi)) ∧ w = w' := by
  obtain ⟨A, o, c, rfl, hm, hA, hc⟩ := h.form
  clear h
  have HA := Lib.hid hA
  have HC := Lib.hid hc
  clear hA hc
  go_enter Tryd.func50, Tryd.ntmps50
  go_wp2
  go_loop [11] (fun i => ∃ k : Nat, k ≤ xs.length ∧ i = .int .i64 k ∧ Hid (∀ j, j < k → decide (lo ≤ nth xs j ∧ nth xs j ≤ hi) = true)) (fun i => xs.length - (intOf i).toNat)
  case atStart => exact ⟨0, Nat.zero_le _, rfl, fun j hj => absurd hj (Nat.not_lt_zero _)⟩
  case round =>
    obtain ⟨k, hk, rfl, hs⟩ := hrel
    by_cases hlt : k < xs.length
    · obtain rfl := HA.out (by omega)
      have hcell := HC.out k hlt
      by_cases hy : lo ≤ nth xs k ∧ nth xs k ≤ hi
      · have e1 := decide_eq_true hy
        have HS : Hid (∀ j, j < k + 1 → decide (lo ≤ nth xs j ∧ nth xs j ≤ hi) = true) := fun j hj => by
          by_cases e : j = k
          · subst e; exact e1
          · exact hs.out j (by omega)
        clear hy
        generalize nth xs k = y at *
        go_wp2_with (go_at_call 63; (with_reducible refine useC (within_is _ _ _ true _ e1) ?_); rintro e w2 ⟨rfl, rfl⟩)
        go_round
        case rel => exact ⟨k + 1, by omega, by go_num, HS⟩
        case measure => simp [intOf]; omega
      · have e1 := decide_eq_false hy
        have hr := Lib.hid (allIn_cut hlt e1)
        clear hy
        generalize nth xs k = y at *
        go_wp2_with (go_at_call 63; (with_reducible refine useC (within_is _ _ _ false _ e1) ?_); rintro e w2 ⟨rfl, rfl⟩)
        go_ret
        exact ⟨ret_bool hr.out.symm, rfl⟩
    · have hr := Lib.hid (allIn_full (fun j hj => hs.out j (by omega)))
      go_wp2
      go_ret
      exact ⟨ret_bool hr.out.symm, rfl⟩
end Go.Proofs.YtokbhiokcoldbaaDoor

/- Rows of integers: literals, an element, a tail. -/
namespace Go.Proofs.YtokbhiokcoldbaaDoor
open Go.RowKit

theorem Own.slice' {w : World} {B e : Nat} {v : Value} {xs : List Int} (h : Own w B e v xs) : ∃ A c, v = .slice A xs.length c := by
  obtain ⟨_, _, hs⟩ := h.sl
  obtain ⟨A, _, c, rfl, _⟩ := hs.form
  exact ⟨_, _, rfl⟩
theorem sl_lit1 (w : World) (x : Int) : Sl (w.alloc (.cells #[.int .i64 x] 3)) (.slice (some ⟨w.heap.size, 0, none⟩) 1 1) w.heap.size [x] := sl_new [x] (heap_alloc_new w _) (by simp; decide)
theorem sl_lit2 (w : World) (x y : Int) : Sl (w.alloc (.cells #[.int .i64 x, .int .i64 y] 3)) (.slice (some ⟨w.heap.size, 0, none⟩) 2 2) w.heap.size [x, y] := sl_new [x, y] (heap_alloc_new w _) (by simp; decide)
theorem Sl.form2 {w : World} {v : Value} {g : Nat} {xs : List Int} (h : Sl w v g xs) (h0 : 0 < xs.length) : ∃ o c, v = .slice (some ⟨g, o, none⟩) xs.length c ∧ xs.length ≤ c ∧ c ≤ maxLen ∧ ∀ i, i < xs.length → w.cell? ⟨g, o + i, none⟩ = some (.int .i64 (nth xs i)) := by
  rcases h with ⟨rfl, _⟩ | h
  · simp at h0
  · exact h
theorem Sl.cellAt {w : World} {g o n c : Nat} {xs : List Int} (h : Sl w (.slice (some ⟨g, o, none⟩) n c) g xs) {i : Nat} (hi : i < xs.length) : w.cell? ⟨g, o + i, none⟩ = some (.int .i64 (nth xs i)) := by
  obtain ⟨A', o1, c1, e0, -, q1, q2⟩ := h.form
  injection e0 with e0 _ _
  rw [q1 (by omega)] at e0
  injection e0 with e0
  injection e0 with _ e0 _
  subst e0
  exact q2 i hi
/-- 'l[1:]' of a list of two numbers or more. -/
theorem Sl.tail {w : World} {g o c : Nat} {xs : List Int} (hc : ∀ i, i < xs.length → w.cell? ⟨g, o + i, none⟩ = some (.int .i64 (nth xs i))) (h1 : xs.length ≤ c) (h2 : c ≤ maxLen) : Sl w (.slice (some ⟨g, o + 1, none⟩) (xs.length - 1) (c - 1)) g xs.tail := by
  refine .inr ⟨o + 1, c - 1, by rw [List.length_tail], by rw [List.length_tail]; omega, by omega, fun i hi => ?_⟩
  rw [List.length_tail] at hi
  rw [Nat.add_assoc, Nat.add_comm 1 i, hc (i + 1) (by omega)]
  simp [nth, List.getD]
end Go.Proofs.YtokbhiokcoldbaaDoor

/- What the laws on package lsm hold: a store beside rows; the closed fact; filled. -/
namespace Go.Proofs.YtokbhiokcoldbaaDoor
open Go.RowKit

/-- The store m (its block b) in the world wr of a call that began at w; its blocks are those of P. -/
structure LsI (w wr : World) (P : Nat → Prop) (b : Nat) (m : Ls.M) : Prop where
  file : LsF P wr b m
  ok : Ls.OK m
  hP : ∀ k, P k → w.heap.size ≤ k ∧ k < wr.heap.size
  fr : Fr [] w wr
section
variable {w wr w' : World} {P P' : Nat → Prop} {b : Nat} {m m' : Ls.M} {v : Value} {xs : List Int}
theorem RunIn.inH {vm : Value} {s : SlV} {l : List (Int × Int)} (h : RunIn P w vm s l) : ∀ g, s.val.ownBlock = some g → g < w.heap.size := fun g hg => (h.row.ge g hg).2
theorem LsF.tight (h : LsF P w b m) : LsF (fun k => P k ∧ k < w.heap.size) w b m := by
  obtain ⟨vm, vr, vs, h⟩ := h
  exact ⟨vm, vr, vs, ⟨h.gb, h.lt⟩, fun g hg => ⟨h.gm g hg, (h.mem.ge g hg).2⟩, fun g hg => ⟨h.gr g hg, (h.runs.ge g hg).2⟩, h.file, h.mem, h.runs, h.len, fun i hi => ⟨(h.each i hi).row, (h.each i hi).apart, fun g hg => ⟨(h.each i hi).inP g hg, (h.each i hi).inH g hg⟩⟩⟩
theorem LsI.step (h : LsI w wr P b m) (hf : Fr [] wr w') : LsI w w' P b m := ⟨h.file.keep hf, h.ok, fun k hk => ⟨(h.hP k hk).1, Nat.lt_of_lt_of_le (h.hP k hk).2 hf.size⟩, h.fr.trans hf⟩
theorem LsI.turn (h : LsI w wr P b m) (hO : Ls.OK m') {e : Ending} (ha : LsAns P b v m' wr e w') : e = .returned v ∧ LsI w w' (Nx P wr w') b m' ∧ FrP P wr w' := by
  obtain ⟨h1, h2, h3⟩ := ha
  exact ⟨h1, ⟨h2.tight, hO, fun k hk => ⟨hk.1.elim (fun hp => (h.hP k hp).1) (fun hp => Nat.le_trans h.fr.size hp), hk.2⟩, h3.fr h.fr (fun k hk => (h.hP k hk).1)⟩, h3⟩
theorem RowO.ofL (h : LsI w wr P b m) {e : Ending} (hn : NewRow xs wr e w') : ∃ v, e = .returned v ∧ RowO P w' v xs ∧ Fr [] wr w' := RowO.ofR (fun k hk => (h.hP k hk).2) hn
theorem RowO.ofRn (h : LsI w wr P b m) {n : Int} {e : Ending} (hn : LsRn n xs wr e w') : ∃ v, e = .returned (.tuple #[.int .i64 n, v]) ∧ RowO P w' v xs ∧ Fr [] wr w' := by
  obtain ⟨v, g, rfl, hg, hs, hf⟩ := hn
  obtain ⟨v', e1, h1, h2⟩ := RowO.ofL h (e := .returned v) ⟨v, g, rfl, hg, hs, hf⟩
  injection e1 with e1
  subst e1
  exact ⟨v, rfl, h1, h2⟩
end
theorem LsI.made {w wr w' : World} {b : Nat} (h0 : Fr [] w wr) (h : LsF (wr.heap.size ≤ ·) w' b Ls.new) (hf : Fr [] wr w') : LsI w w' (fun k => wr.heap.size ≤ k ∧ k < w'.heap.size) b Ls.new :=
  ⟨h.tight, Ls.new_ok, fun _ hk => ⟨Nat.le_trans h0.size hk.1, hk.2⟩, h0.trans hf⟩
theorem Ls.OK.put {m : Ls.M} (h : Ls.OK m) (k v : Int) : Ls.OK (Ls.put m k v) := by
  unfold Ls.put
  split
  · exact h.down ⟨by show -1 ≤ v; omega, by show v ≤ 1000; omega⟩
  · exact h
theorem Ls.OK.drop {m : Ls.M} (h : Ls.OK m) (k : Int) : Ls.OK (Ls.down m (k, -1)) := h.down ⟨by show (-1 : Int) ≤ -1; omega, by show (-1 : Int) ≤ 1000; omega⟩
namespace Ls
def fa : M := put new 1 5
def fb : M := flush fa
def fc : M := put fb 1 6
theorem fact_1 : putErr new 1 5 = 0 := by decide
theorem fact_2 : putErr fb 1 6 = 0 := by decide
theorem fact_3 : getE fc 1 = 0 := by decide
theorem fact_4 : getV fc 1 = 6 := by decide
theorem fact_5 : lens fc = [1] := by decide
theorem fact_6 : fc.mem.length = 1 := by decide
end Ls
theorem RowO.sl1 {P : Nat → Prop} {w : World} {v : Value} {xs : List Int} (h : RowO P w v xs) : ∃ A c, v = .slice A xs.length c := by
  obtain ⟨g, _, hs⟩ := h
  obtain ⟨A, o, c, rfl, -, -, -⟩ := hs.form
  exact ⟨A, c, rfl⟩
set_option maxRecDepth 100000 in
set_option maxHeartbeats 1000000 in
theorem ls_fact (w : World) : Calls Tryd.prog 30 #[] w (OkT w) := by
  have a1 := Lib.hid Ls.fact_1
  have a2 := Lib.hid Ls.fact_2
  have a3 := Lib.hid Ls.fact_3
  have a4 := Lib.hid Ls.fact_4
  have a5 := Lib.hid Ls.fact_5
  have a6 := Lib.hid Ls.fact_6
  have o1 := Lib.hid (Ls.new_ok.put 1 5)
  have o2 := Lib.hid (show Ls.OK Ls.fb from o1.out.flush)
  have o3 := Lib.hid (show Ls.OK Ls.fc from o2.out.put 1 6)
  have HN := Lib.hid (ls_New w)
  go_enter Tryd.func30, Tryd.ntmps30
  go_wp2_with (first
    | (go_at_call 31; (with_reducible refine useC HN.out ?_); rintro e w1 ⟨rfl, hs, hf⟩; obtain ⟨P1, b, hb, HS1⟩ : ∃ P b, w.heap.size = b ∧ Hid (LsI w w1 P b Ls.new) := ⟨_, _, rfl, LsI.made (Fr.refl [] w) hs hf⟩; rw [hb]; have HC1 := Lib.hid (ls_Put w1 P1 b Ls.new 1 5 HS1.out.file HS1.out.ok); rw [a1.out] at HC1; clear hs hf hb)
    | (go_at_call 33; (with_reducible refine useC HC1.out ?_); rintro e w2 ha; obtain ⟨rfl, hs, -⟩ := HS1.out.turn o1.out ha; rw [show errV 0 = .nilIface from rfl]; obtain ⟨P2, HS2⟩ : ∃ P, Hid (LsI w w2 P b Ls.fa) := ⟨_, hs⟩; have HC2 := Lib.hid (ls_Flush w2 P2 b Ls.fa HS2.out.file (by decide) (by decide)); clear ha hs HC1)
    | (go_at_call 34; (with_reducible refine useC HC2.out ?_); rintro e w3 ha; obtain ⟨rfl, hs, -⟩ := HS2.out.turn o2.out ha; obtain ⟨P3, HS3⟩ : ∃ P, Hid (LsI w w3 P b Ls.fb) := ⟨_, hs⟩; have HC3 := Lib.hid (ls_Put w3 P3 b Ls.fb 1 6 HS3.out.file HS3.out.ok); rw [a2.out] at HC3; clear ha hs HC2)
    | (go_at_call 33; (with_reducible refine useC HC3.out ?_); rintro e w4 ha; obtain ⟨rfl, hs, -⟩ := HS3.out.turn o3.out ha; rw [show errV 0 = .nilIface from rfl]; obtain ⟨P4, HS4⟩ : ∃ P, Hid (LsI w w4 P b Ls.fc) := ⟨_, hs⟩; have HC4 := Lib.hid (ls_Get w4 P4 b Ls.fc 1 HS4.out.file HS4.out.ok); rw [a3.out, a4.out, show errV 0 = .nilIface from rfl] at HC4; clear ha hs HC3)
    | (go_at_call 36; (with_reducible refine useC HC4.out ?_); rintro e w5 ⟨rfl, hf⟩; have HS5 := Lib.hid (HS4.out.step hf); have HC5 := Lib.hid (ls_Runs w5 P4 b Ls.fc HS5.out.file HS5.out.ok); rw [a5.out, a6.out] at HC5; clear hf HC4)
    | (go_at_call 39; (with_reducible refine useC HC5.out ?_); rintro e w6 hn; obtain ⟨v6, rfl, hr, hf⟩ := RowO.ofRn HS5.out hn; obtain ⟨g6, -, hs6⟩ := hr; obtain ⟨A6, o6, c6, hv6, -, -, -⟩ := hs6.form; subst hv6; have HL6 : Hid (Sl w6 (.slice A6 1 c6) g6 [1]) := hs6; have HF6 := Lib.hid (HS5.out.fr.trans hf); clear hn hf HC5 hs6)
    | (have HL7 := HL6; go_at_call 14; (with_reducible refine useC (ints_same _ _ _ g6 w6.heap.size [1] (HL6.out.fr ((Fr.refl [] w6).alloc _) (by simp)) (sl_lit1 w6 1)) ?_); rintro e w7 ⟨rfl, hd⟩; have HF7 := Lib.hid ((HF6.out.alloc (.cells #[.int .i64 1] 3)).trans (hd.fr [])); clear hd))
  go_ret
  exact ⟨rfl, HF7.out⟩
/-- The call hands back a store in new memory. -/
def LsMade (w : World) (e : Ending) (w' : World) : Prop := ∃ b P m, e = .returned (.pointer (some ⟨b, 0, none⟩)) ∧ LsI w w' P b m
set_option maxRecDepth 100000 in
set_option maxHeartbeats 2000000 in
theorem ls_filled (w : World) (v : Value) (ls : List (List Int)) (hR : Rw w.heap.size w v ls) : Calls Tryd.prog 38 #[v] w (LsMade w) := by
  obtain ⟨A, g, o, cc, rfl, hm, hF⟩ := hR
  have HF := Lib.hid hF
  have HN := Lib.hid (ls_New w)
  clear hF
  go_enter Tryd.func38, Tryd.ntmps38
  go_wp2_with (go_at_call 31; (with_reducible refine useC HN.out ?_); rintro e w1 ⟨rfl, hs, hf⟩; obtain ⟨P1, b, hb, HS1⟩ : ∃ P b, w.heap.size = b ∧ Hid (LsI w w1 P b Ls.new) := ⟨_, _, rfl, LsI.made (Fr.refl [] w) hs hf⟩; rw [hb]; clear hs hf hb)
  go_loopw [4] (fun i wr => ∃ k : Nat, k ≤ ls.length ∧ k ≤ 80 ∧ i = .int .i64 k ∧ Hid (∃ P m, LsI w wr P b m)) (fun i _ => 80 - (intOf i).toNat)
  case atStart => exact ⟨0, Nat.zero_le _, Nat.zero_le _, rfl, P1, _, HS1.out⟩
  case round =>
    clear HS1
    obtain ⟨k, hk, hk8, rfl, hS⟩ := hrel
    obtain ⟨P, m, hS2⟩ := hS.out
    by_cases hin : k < ls.length ∧ k < 80
    · obtain ⟨hlt, h80⟩ := hin
      obtain ⟨rfl, hg⟩ := HF.out.1 (by omega)
      obtain ⟨u, kb, hcell, hkb, hsl, _⟩ := (HF.out.below (hS2.fr.toBelow (Nat.le_refl _) (by simp))).2 k hlt
      obtain ⟨A', o', c', rfl, hm', hA', hc'⟩ := hsl.form
      have i0 : (0 : Int) ≤ k := by omega
      have i1 : (k : Int) < ls.length := by omega
      have i4 : (k : Int) < 80 := by omega
      have H2 := Lib.hid hS2
      clear hsl hS2 hS
      by_cases hl1 : (nthR ls k).length = 1
      · obtain rfl := hA' (by omega)
        have c0 := hc' 0 (by omega)
        rw [Nat.add_zero] at c0
        rw [hl1] at hcell
        clear hc' hA' hl1 hkb
        generalize nth (nthR ls k) 0 = x0 at *
        have HC := Lib.hid (ls_Drop wr P b m x0 H2.out.file H2.out.ok)
        go_wp2_with (go_at_call 32; (with_reducible refine useC HC.out ?_); intro e w3 ha; obtain ⟨rfl, hs, -⟩ := H2.out.turn (H2.out.ok.drop x0) ha; have H3 : Hid (∃ P m, LsI w w3 P b m) := ⟨_, _, hs⟩; clear ha hs HC)
        go_roundw
        case rel => exact ⟨k + 1, by omega, by omega, by go_num, H3.out⟩
        case measure => simp [intOf]; omega
      · have b1 : (((nthR ls k).length : Int) == 1) = false := beq_eq_false_iff_ne.2 (by omega)
        by_cases hl2 : (nthR ls k).length = 2
        · obtain rfl := hA' (by omega)
          have c0 := hc' 0 (by omega)
          have c1 := hc' 1 (by omega)
          rw [Nat.add_zero] at c0
          rw [hl2] at hcell
          clear hc' hA' hl1 hl2 hkb b1
          generalize nth (nthR ls k) 0 = x0 at *
          generalize nth (nthR ls k) 1 = x1 at *
          have HC := Lib.hid (ls_Put wr.drew P b m x0 x1 (H2.out.file.keep (Fr.refl [] wr).drew) H2.out.ok)
          have H2d := Lib.hid (H2.out.step (Fr.refl [] wr).drew)
          go_wp2_with fail
          (refine wp_region_mixq 7 [(true, 0), (true, 1), (true, 2), (true, 3), (true, 4), (true, 5), (true, 6)] (by kernel_rfl) (by kernel_rfl) ?_; simp only [pickOps, List.map_cons, List.map_nil, List.getD_cons_zero, List.getD_cons_succ, List.drop_succ_cons, List.drop_zero]; (iterate 7 (first | (refine wpMix_take (v := ?_) (by rfl) ?_ ?_; rotate_left; (focus (intro W hW; subst hW; go_simp; (try with_reducible rfl); done)); try simp only [Act.put, List.setIfInBounds_toArray, List.set_cons_zero, List.set_cons_succ]) | (refine wpMix_leave (by rfl) ?_; try simp only [Act.put, List.setIfInBounds_toArray, List.set_cons_zero, List.set_cons_succ]))); refine wpMix_nil ?_)
          go_wp2_with (go_at_call 33; (with_reducible refine useC HC.out ?_); intro e w3 ha; obtain ⟨rfl, hs, -⟩ := H2d.out.turn (H2.out.ok.put x0 x1) ha; have H3 : Hid (∃ P m, LsI w w3 P b m) := ⟨_, _, hs⟩; clear ha hs HC)
          go_roundw
          case rel => exact ⟨k + 1, by omega, by omega, by go_num, H3.out⟩
          case measure => simp [intOf]; omega
        · have b2 : (((nthR ls k).length : Int) == 2) = false := beq_eq_false_iff_ne.2 (by omega)
          by_cases hl3 : (nthR ls k).length = 3
          · rw [hl3] at hcell
            have hml := H2.out.ok.mem
            have hrl := H2.out.ok.len
            have hmm := H2.out.ok.many
            have HC := Lib.hid (ls_Flush wr P b m H2.out.file (by omega) (by omega))
            clear hc' hA' hl1 hl2 hl3 hkb b1 b2 hml hrl hmm
            go_wp2_with (go_at_call 34; (with_reducible refine useC HC.out ?_); intro e w3 ha; obtain ⟨rfl, hs, -⟩ := H2.out.turn H2.out.ok.flush ha; have H3 : Hid (∃ P m, LsI w w3 P b m) := ⟨_, _, hs⟩; clear ha hs HC)
            go_roundw
            case rel => exact ⟨k + 1, by omega, by omega, by go_num, H3.out⟩
            case measure => simp [intOf]; omega
          · have b3 : (((nthR ls k).length : Int) == 3) = false := beq_eq_false_iff_ne.2 (by omega)
            by_cases hl4 : (nthR ls k).length = 4
            · rw [hl4] at hcell
              have HC := Lib.hid (ls_Merge wr P b m H2.out.file H2.out.ok)
              clear hc' hA' hl1 hl2 hl3 hl4 hkb b1 b2 b3
              go_wp2_with (go_at_call 35; (with_reducible refine useC HC.out ?_); intro e w3 ha; obtain ⟨rfl, hs, -⟩ := H2.out.turn H2.out.ok.merge ha; have H3 : Hid (∃ P m, LsI w w3 P b m) := ⟨_, _, hs⟩; clear ha hs HC)
              go_roundw
              case rel => exact ⟨k + 1, by omega, by omega, by go_num, H3.out⟩
              case measure => simp [intOf]; omega
            · have b4 : (((nthR ls k).length : Int) == 4) = false := beq_eq_false_iff_ne.2 (by omega)
              clear hc' hA' hl1 hl2 hl3 hl4 hkb
              go_wp2
              go_roundw
              case rel => exact ⟨k + 1, by omega, by omega, by go_num, P, m, H2.out⟩
              case measure => simp [intOf]; omega
    · have HS2 := Lib.hid hS2
      clear hS hS2
      by_cases hlt : k < ls.length
      · have i1 : (k : Int) < ls.length := by omega
        have i4 : ¬ (k : Int) < 80 := by omega
        go_wp2
        go_ret
        exact ⟨b, P, m, rfl, HS2.out⟩
      · have i1 : ¬ (k : Int) < ls.length := by omega
        go_wp2
        go_ret
        exact ⟨b, P, m, rfl, HS2.out⟩
end Go.Proofs.YtokbhiokcoldbaaDoor
