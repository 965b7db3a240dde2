/- The contract of Ints: two lists held against each other. -/

import Derived.Test.YtokbhiokcoldbaaDoorBq02
import Derived.Test.YtokbhiokcoldbaaDoorBq05
import Derived.Test.YtokbhiokcoldbaaDoorBq09
import Derived.Test.YtokbhiokcoldbaaDoorBq15
import Derived.Test.YtokbhiokcoldbaaDoorBq18
import Derived.Test.YtokbhiokcoldbaaDoorBq19
namespace Go.Proofs.YtokbhiokcoldbaaDoor
open Go.RowKit

theorem ints_any (w : World) (v u : Value) (g k0 : Nat) (xs ys : List Int) (h : Sl w v g xs) (h' : Sl w u k0 ys) :
    Calls Tryd.prog 14 #[v, u] w (SameAs (decide (xs = ys)) w) := by
  obtain ⟨A, o, c, rfl, hm, hA, hc⟩ := h.form
  obtain ⟨A', o', c', rfl, hm', hA', hc'⟩ := h'.form
  clear h h'
  have HA := Lib.hid hA
  have HC := Lib.hid hc
  have HA' := Lib.hid hA'
  have HC' := Lib.hid hc'
  clear hA hc hA' hc'
  by_cases hl : xs.length = ys.length
  · have HL := Lib.hid hl
    have eL : ((xs.length : Int) != (ys.length : Int)) = false := by simp [hl]
    have hl1 : ys.length ≤ xs.length := by omega
    have hl2 : xs.length ≤ ys.length := by omega
    clear hl
    go_enter Tryd.func14, Tryd.ntmps14
    go_wp2
    go_loopw [5] (fun i wr => ∃ k : Nat, k ≤ xs.length ∧ i = .int .i64 k ∧ Dr w wr ∧ Hid (∀ j, j < k → nth xs j = nth ys j)) (fun i _ => xs.length - (intOf i).toNat)
    case atStart => exact ⟨0, Nat.zero_le _, rfl, Dr.refl _, fun j hj => absurd hj (Nat.not_lt_zero _)⟩
    case round =>
      obtain ⟨k, hk, rfl, ⟨n, rfl⟩, hno⟩ := hrel
      by_cases hlt : k < xs.length
      · obtain rfl := HA.out (by omega)
        obtain rfl := HA'.out (by omega)
        have hcell := HC.out k hlt
        have hcell' := HC'.out k (by omega)
        have hlt' : k < ys.length := by omega
        have i1 : (0 : Int) ≤ k := by omega
        have i2 : (k : Int) < xs.length := by omega
        have i3 : (k : Int) < ys.length := by omega
        by_cases he : nth xs k = nth ys k
        · have eB : (nth xs k != nth ys k) = false := by simpa using he
          have HE := Lib.hid he
          clear he
          go_wp2
          go_quiet (fail)
          go_wp2
          go_roundw
          case rel =>
            refine ⟨k + 1, by omega, by go_num, by first | exact Dr.two _ _ _ | exact Dr.one _ _, fun j hj => ?_⟩
            by_cases hjk : j = k
            · subst hjk; exact HE.out
            · exact hno.out j (by omega)
          case measure => simp [intOf]; omega
        · have eB : (nth xs k != nth ys k) = true := by simpa using he
          have HE := Lib.hid he
          clear he
          go_wp2
          go_quiet (fail)
          go_wp2
          go_ret
          exact ⟨ret_bool (by symm; apply decide_eq_false; rintro rfl; exact HE.out rfl), by first | exact Dr.two _ _ _ | exact Dr.one _ _⟩
      · go_wp2
        go_ret
        exact ⟨ret_bool (by symm; apply decide_eq_true; exact eq_of_getD HL.out (fun j hj => hno.out j (by omega))), Dr.one _ _⟩
  · have HL := Lib.hid hl
    have eL : ((xs.length : Int) != (ys.length : Int)) = true := by simp; omega
    clear hl
    go_enter Tryd.func14, Tryd.ntmps14
    go_wp2
    go_ret
    exact ⟨ret_bool (by symm; apply decide_eq_false; rintro rfl; exact HL.out rfl), Dr.refl _⟩

theorem ints_same (w : World) (v u : Value) (g k0 : Nat) (xs : List Int) (h : Sl w v g xs) (h' : Sl w u k0 xs) :
    Calls Tryd.prog 14 #[v, u] w (SameAs true w) :=
  (ints_any w v u g k0 xs xs h h').mono fun _ _ hh => by simpa [SameAs] using hh
end Go.Proofs.YtokbhiokcoldbaaDoor
/- What the laws on package btree hold: a tree; rows of rows; the closed fact; grown. -/
namespace Go.Proofs.YtokbhiokcoldbaaDoor
open Go.RowKit

/-- Rows in memory. -/
def RR (w : World) (v : Value) (xs : List (List Int)) : Prop := ∃ A g c, v = .slice A xs.length c ∧ (0 < xs.length → A = some ⟨g, 0, none⟩) ∧
  ∀ j, j < xs.length → ∃ A' c' gj, w.cell? ⟨g, j, none⟩ = some (.slice A' (xs.getD j []).length c') ∧ Sl w (.slice A' (xs.getD j []).length c') gj (xs.getD j [])
theorem RR.keep {w w' : World} {v : Value} {xs : List (List Int)} (h : RR w v xs) (hf : Fr [] w w') : RR w' v xs := by
  obtain ⟨A, g, c, h1, h2, h3⟩ := h
  refine ⟨A, g, c, h1, h2, fun j hj => ?_⟩
  obtain ⟨A', c', gj, h4, h5⟩ := h3 j hj
  exact ⟨A', c', gj, hf.cell h4 (by simp), h5.fr hf (by simp)⟩
theorem BtLv.rr {xs : List (List Int)} {w w' : World} {e : Ending} (h : BtLv xs w e w') : ∃ v, e = .returned v ∧ RR w' v xs ∧ Fr [] w w' := by
  obtain ⟨v, vs, rfl, h1, h2, h3, h4⟩ := h
  refine ⟨v, rfl, ?_, h4⟩
  rcases h1.2 with ⟨rfl, hn⟩ | ⟨g, cap, cur, rfl, hb, hg, hc, hm, hs, ht⟩
  · have : xs = [] := List.eq_nil_of_length_eq_zero (by omega)
    subst this
    exact ⟨none, 0, 0, rfl, fun h => by simp at h, fun j hj => by simp at hj⟩
  · refine ⟨_, g, cap, by rw [h2], fun _ => rfl, fun j hj => ?_⟩
    have hjv : j < vs.length := by omega
    have hrow := h3 j hjv
    obtain ⟨A', c', hv, -⟩ := hrow.form'
    obtain ⟨gj, _, hsl⟩ := (own_inE.1 hrow).sl
    rw [hv] at hsl
    refine ⟨A', c', gj, ?_, hsl⟩
    rw [cell_of_row _ g j cur _ _ hg]
    have h5 := slE.cells_get vs j 0 hjv (by decide)
    rw [← ht, List.getElem?_take] at h5
    rw [show j * slE.k + 0 = j from by show j * 1 + 0 = j; omega] at h5
    split at h5
    · rw [← hv]
      simpa [slE] using h5
    · simp [slE] at h5
set_option maxRecDepth 100000 in
set_option maxHeartbeats 1000000 in
theorem rows_same (w : World) (v u : Value) (xs : List (List Int)) (h : RR w v xs) (h' : RR w u xs) (hl : xs.length ≤ 1000) :
    Calls Tryd.prog 25 #[v, u] w (OkT w) := by
  obtain ⟨A, g, c, rfl, hA, hc⟩ := h
  obtain ⟨A2, g2, c2, rfl, hA2, hc2⟩ := h'
  have HA := Lib.hid hA
  have HA2 := Lib.hid hA2
  have HC : Hid (∀ W, Fr [] w W → ∀ j, j < xs.length → ∃ A' c' gj, W.cell? ⟨g, j, none⟩ = some (.slice A' (xs.getD j []).length c') ∧ Sl W (.slice A' (xs.getD j []).length c') gj (xs.getD j [])) := fun W hW j hj => by
    obtain ⟨A', c', gj, h1, h2⟩ := hc j hj
    exact ⟨A', c', gj, hW.cell h1 (by simp), h2.fr hW (by simp)⟩
  have HC2 : Hid (∀ W, Fr [] w W → ∀ j, j < xs.length → ∃ A' c' gj, W.cell? ⟨g2, j, none⟩ = some (.slice A' (xs.getD j []).length c') ∧ Sl W (.slice A' (xs.getD j []).length c') gj (xs.getD j [])) := fun W hW j hj => by
    obtain ⟨A', c', gj, h1, h2⟩ := hc2 j hj
    exact ⟨A', c', gj, hW.cell h1 (by simp), h2.fr hW (by simp)⟩
  clear hA hc hA2 hc2
  go_enter Tryd.func25, Tryd.ntmps25
  go_wp2
  go_loopw [5] (fun i wr => ∃ k : Nat, k ≤ xs.length ∧ i = .int .i64 k ∧ Hid (Fr [] w wr)) (fun i _ => xs.length - (intOf i).toNat)
  case atStart => exact ⟨0, Nat.zero_le _, rfl, Fr.refl _ _⟩
  case round =>
    obtain ⟨k, hk, rfl, hF⟩ := hrel
    by_cases hlt : k < xs.length
    · obtain rfl := HA.out (by omega)
      obtain rfl := HA2.out (by omega)
      obtain ⟨A3, c3, g3, q1, s1⟩ := HC.out wr hF.out k hlt
      obtain ⟨A4, c4, g4, q2, s2⟩ := HC2.out wr hF.out k hlt
      have kI : (k : Int) < xs.length := by omega
      have k0 : (0 : Int) ≤ k := by omega
      have hd : Fr [] wr wr.drew := (Fr.refl [] wr).drew
      have HIN := Lib.hid (ints_same wr.drew _ _ g3 g4 _ (s1.fr hd (by simp)) (s2.fr hd (by simp)))
      generalize xs.getD k [] = X at *
      generalize X.length = L at *
      clear s1 s2
      go_wp2_with fail
      (refine wp_region_mixq 8 [(true, 0), (true, 1), (true, 2), (true, 3), (true, 4), (true, 5), (true, 6), (true, 7)] (by kernel_rfl) (by kernel_rfl) ?_; simp only [pickOps, List.map_cons, List.map_nil, List.getD_cons_zero, List.getD_cons_succ, List.drop_succ_cons, List.drop_zero]; (iterate 8 (first | (refine wpMix_take (v := ?_) (by rfl) ?_ ?_; rotate_left; (focus (intro W hW; subst hW; go_simp; (try with_reducible rfl); done)); try simp only [Act.put, List.setIfInBounds_toArray, List.set_cons_zero, List.set_cons_succ]) | (refine wpMix_leave (by rfl) ?_; try simp only [Act.put, List.setIfInBounds_toArray, List.set_cons_zero, List.set_cons_succ]))); refine wpMix_nil ?_)
      go_wp2_with (go_at_call 14; (with_reducible refine useC HIN.out ?_); rintro e w3 ⟨rfl, hdr⟩; have HF3 := Lib.hid ((hF.out.trans hd).trans (hdr.fr [])); clear hdr)
      go_roundw
      case rel => exact ⟨k + 1, by omega, by go_num, HF3.out⟩
      case measure => (simp [intOf]; try omega)
    · have kI : ¬ (k : Int) < xs.length := by omega
      go_wp2
      go_ret
      exact ⟨rfl, hF.out⟩
/-- The tree s (its block p) in the world wr of a call that began at w; its blocks are those of P. -/
structure BtI2 (w wr : World) (P : Nat → Prop) (p : Nat) (s : Bt.Tree) : Prop where
  file : BtF P wr p s
  ok : s.OK
  hP : ∀ k, P k → w.heap.size ≤ k ∧ k < wr.heap.size
  fr : Fr [] w wr
def Nxb (P : Nat → Prop) (wr w' : World) (k : Nat) : Prop := OrNew P wr k ∧ k < w'.heap.size
section
variable {w wr w' : World} {P : Nat → Prop} {p : Nat} {s s' : Bt.Tree} {v : Value}
theorem BtF.tight (h : BtF P w p s) : BtF (fun k => P k ∧ k < w.heap.size) w p s := by
  obtain ⟨r, F, h⟩ := h
  exact ⟨r, F, h.file, h.nd, h.nodup, ⟨h.gp, lt_of_heap h.file⟩, fun x hx => ⟨h.gF x hx, h.nd.lt x hx⟩, h.np⟩
theorem FrP.frB {P : Nat → Prop} {a w w' : World} (h0 : Fr [] a w) (h : FrP P w w') (hP : ∀ k, P k → a.heap.size ≤ k) : Fr [] a w' :=
  ⟨h.os.trans h0.os, h.tape.trans h0.tape, h.output.trans h0.output, Nat.le_trans h0.size h.size, fun k hk _ => (h.block k (Nat.lt_of_lt_of_le hk h0.size) (fun hp => by have := hP k hp; omega)).trans (h0.block k hk (by simp))⟩
theorem BtI2.step (h : BtI2 w wr P p s) (hf : Fr [] wr w') : BtI2 w w' P p s := ⟨h.file.keep hf, h.ok, fun k hk => ⟨(h.hP k hk).1, Nat.lt_of_lt_of_le (h.hP k hk).2 hf.size⟩, h.fr.trans hf⟩
theorem BtI2.turn (h : BtI2 w wr P p s) (hO : s'.OK) {e : Ending} (ha : BtAns P p v s' wr e w') : e = .returned v ∧ BtI2 w w' (Nxb P wr w') p s' ∧ FrP P wr w' := by
  obtain ⟨h1, h2, h3⟩ := ha
  exact ⟨h1, ⟨h2.tight, hO, fun k hk => ⟨hk.1.elim (fun hp => (h.hP k hp).1) (fun hp => Nat.le_trans h.fr.size hp), hk.2⟩, h3.frB h.fr (fun k hk => (h.hP k hk).1)⟩, h3⟩
end
theorem BtI2.made {w wr w' : World} {p : Nat} (h0 : Fr [] w wr) (h : BtF (wr.heap.size ≤ ·) w' p Bt.new) (hf : Fr [] wr w') : BtI2 w w' (fun k => wr.heap.size ≤ k ∧ k < w'.heap.size) p Bt.new :=
  ⟨h.tight, Bt.new_ok, fun _ hk => ⟨Nat.le_trans h0.size hk.1, hk.2⟩, h0.trans hf⟩
end Go.Proofs.YtokbhiokcoldbaaDoor

/- BtreePlays: the program's tree and the document's struct side by side. -/
namespace Go.Proofs.YtokbhiokcoldbaaDoor
open Go.RowKit

section
variable {G : Nat → Prop} {w w' : World} {v : Value} {xs : List Int} {ns : List Bt.Nn}
theorem rowH_keep (h : RowH G w v xs) (hk : ∀ g, g < w.heap.size → G g → w'.heap[g]? = w.heap[g]?) : RowH G w' v xs := by
  obtain ⟨g, hg, hs⟩ := h
  by_cases hx : xs = []
  · exact ⟨g, .inr hx, sl_nil_any hs hx⟩
  · have hgg := hg.resolve_right hx
    have hlt := RowH.lt hs hx
    refine ⟨g, .inl hgg, ?_⟩
    rcases hs with h1 | ⟨o, c, h0, h1, h2, h3⟩
    · exact .inl h1
    · exact .inr ⟨o, c, h0, h1, h2, fun i hi => (World.cell?_of_block (hk g hlt hgg)).trans (h3 i hi)⟩
theorem BqT.keep (h : BqT G w v ns) (hk : ∀ g, g < w.heap.size → G g → w'.heap[g]? = w.heap[g]?) : BqT G w' v ns := by
  obtain ⟨g, c, vs, e, h⟩ := h
  exact ⟨g, c, vs, e, h.gg, h.pos, h.cap, h.len, fun j hj => ⟨(World.cell?_of_block (hk g h.lt h.gg)).trans (h.cell j hj).1, (World.cell?_of_block (hk g h.lt h.gg)).trans (h.cell j hj).2⟩, fun j hj => ⟨rowH_keep (h.row j hj).1 hk, rowH_keep (h.row j hj).2 hk⟩⟩
end
/-- The blocks of the document's rows: none of the tree's, nor the variable's, nor the row's (H). -/
def BqG (P : Nat → Prop) (X : Nat) (H : Option Nat) (g : Nat) : Prop := ¬ P g ∧ g ≠ X ∧ H ≠ some g
/-- The program's tree (block p, blocks P, model s), the document's struct in the variable X (q), a row of the law's own (ks). -/
structure BqI (w wr : World) (P : Nat → Prop) (p X : Nat) (s : Bt.Tree) (q : Bt.Qt) (hv : Value) (ks : List Int) : Prop where
  bt : BtI2 w wr P p s
  ref : ∃ g c, BqX wr X (.slice (some ⟨g, 0, none⟩) q.ns.length c) q.root ∧ BqT (BqG P X hv.ownBlock) wr (.slice (some ⟨g, 0, none⟩) q.ns.length c) q.ns
  np : ¬ P X
  ge : w.heap.size ≤ X
  row : Own wr w.heap.size 3 hv ks
  ap : ∀ g, hv.ownBlock = some g → ¬ P g ∧ g ≠ X
section
variable {w wr w' : World} {P : Nat → Prop} {p X : Nat} {s s' : Bt.Tree} {q q' : Bt.Qt} {v hv hv' : Value} {e : Ending} {ks ks' : List Int}
theorem BqI.lt (h : BqI w wr P p X s q hv ks) : X < wr.heap.size := by
  obtain ⟨g, c, hx, -⟩ := h.ref
  exact lt_of_heap hx
theorem BqI.new (h : BqI w wr P p X s q hv ks) : ∀ k, wr.heap.size ≤ k → BqG P X hv.ownBlock k := fun k hk => ⟨fun hp => by have := (h.bt.hP k hp).2; omega, by have := h.lt; omega, fun e => by have := h.row.lt k e; omega⟩
theorem BqI.step (h : BqI w wr P p X s q hv ks) (hf : Fr [] wr w') : BqI w w' P p X s q hv ks := by
  obtain ⟨g, c, hx, h1⟩ := h.ref
  exact ⟨h.bt.step hf, ⟨g, c, hf.get hx (by simp), h1.step hf⟩, h.np, h.ge, h.row.kept hf (by simp), h.ap⟩
theorem BqI.turn (h : BqI w wr P p X s q hv ks) (hO : s'.OK) (ha : BtAns P p v s' wr e w') : e = .returned v ∧ BqI w w' (Nxb P wr w') p X s' q hv ks := by
  obtain ⟨h1, h2, h3⟩ := h.bt.turn hO ha
  obtain ⟨g, c, hx, k1⟩ := h.ref
  have hG : ∀ g, g < wr.heap.size → BqG P X hv.ownBlock g → BqG (Nxb P wr w') X hv.ownBlock g := fun g hg hq => ⟨fun hp => hp.1.elim hq.1 (fun hn => by omega), hq.2.1, hq.2.2⟩
  have hk : ∀ g, g < wr.heap.size → BqG (Nxb P wr w') X hv.ownBlock g → w'.heap[g]? = wr.heap[g]? := fun g hg hq => h3.block g hg (fun hp => hq.1 ⟨.inl hp, Nat.lt_of_lt_of_le hg h3.size⟩)
  exact ⟨h1, h2, ⟨g, c, (h3.block X h.lt h.np).trans hx, (k1.mono hG).keep hk⟩, fun hp => hp.1.elim h.np (fun hn => by have := h.lt; omega), h.ge, own_inE.1 (OwnR.frP' (own_inE.2 h.row) h3 (fun g hg => (h.ap g hg).1)), fun g hg => ⟨fun hp => hp.1.elim (h.ap g hg).1 (fun hn => by have := h.row.lt g hg; omega), (h.ap g hg).2⟩⟩
theorem BqI.val (h : BqI w wr P p X s q hv ks) : ∃ g c, BqV (BqG P X hv.ownBlock) wr (.agg #[.slice (some ⟨g, 0, none⟩) q.ns.length c, .int .i64 (q.root : Int)]) q ∧ ∀ W, Fr [] wr W → (W.cell? ⟨X, 0, none⟩ = some (.slice (some ⟨g, 0, none⟩) q.ns.length c) ∧ W.cell? ⟨X, 1, none⟩ = some (.int .i64 (q.root : Int))) ∧ ∀ i, W.frozen? ⟨X, i, none⟩ = false := by
  obtain ⟨g, c, hx, h1⟩ := h.ref
  refine ⟨g, c, ⟨_, rfl, h1⟩, fun W hW => ?_⟩
  have hx' : BqX W X _ _ := hW.get hx (by simp)
  exact ⟨hx'.cells, fun i => free_block hx' i none⟩
/-- The variable holds another struct. -/
theorem BqI.put (h : BqI w wr P p X s q hv ks) (hf : Fr [] wr w') {g c : Nat} (hV : BqV (BqG P X hv.ownBlock) w' (.agg #[.slice (some ⟨g, 0, none⟩) q'.ns.length c, .int .i64 (q'.root : Int)]) q') : BqI w (bqSet w' X (.slice (some ⟨g, 0, none⟩) q'.ns.length c) q'.root) P p X s q' hv ks := by
  have hs := h.step hf
  obtain ⟨_, _, hx, -⟩ := hs.ref
  obtain ⟨h1, h2⟩ := bq_set w' X (.slice (some ⟨g, 0, none⟩) q'.ns.length c) q'.root hx
  obtain ⟨a, e0, k1⟩ := hV
  simp only [Value.agg.injEq, Array.mk.injEq, List.cons.injEq] at e0
  obtain ⟨rfl, -⟩ := e0
  have hS : ∀ g ∈ [X], ¬ BqG P X hv.ownBlock g := fun g hg hq => hq.2.1 (by simpa using hg)
  have hP : FrP (· = X) w' (bqSet w' X (.slice (some ⟨g, 0, none⟩) q'.ns.length c) q'.root) := (FrP.refl _ w').step h2 (fun g hg => .inl (by simpa using hg))
  exact ⟨⟨hs.bt.file.frP hP (fun k hk hc => hs.np (by subst hc; exact hk)), hs.bt.ok, fun k hk => ⟨(hs.bt.hP k hk).1, Nat.lt_of_lt_of_le (hs.bt.hP k hk).2 h2.size⟩, hs.bt.fr.step h2 (fun g hg => .inr (by simp only [List.mem_singleton] at hg; subst hg; exact h.ge))⟩, ⟨g, c, h1, k1.fr h2 hS⟩, hs.np, hs.ge, hs.row.kept h2 (fun g hg e => (h.ap g e).2 (by simpa using hg)), h.ap⟩
/-- The row grows. -/
theorem BqI.push (h : BqI w wr P p X s q hv ks) {n : Nat} (ho : Own w' w.heap.size 3 hv' ks') (hg : wr.grownBy w' hv.ownBlock) (hm : Moved n hv hv') (hn : wr.heap.size ≤ n) : BqI w w' P p X s q hv' ks' := by
  have hf : Fr hv.ownBlock.toList wr w' := fr_grown hg
  obtain ⟨g, c, hx, k1⟩ := h.ref
  have hxl := h.lt
  have hP : FrP (fun k => hv.ownBlock = some k) wr w' := (FrP.refl _ wr).step hf (fun g hg => .inl (by simpa using hg))
  have hH : ∀ g, g < wr.heap.size → hv.ownBlock ≠ some g → hv'.ownBlock ≠ some g := fun g hl hne => by
    rcases hm with hm | hm
    · rw [hm]; exact hne
    · rw [hm]; intro e; injection e with e; omega
  refine ⟨⟨h.bt.file.frP hP (fun k hk hc => (h.ap k hc).1 hk), h.bt.ok, fun k hk => ⟨(h.bt.hP k hk).1, Nat.lt_of_lt_of_le (h.bt.hP k hk).2 hf.size⟩, h.bt.fr.step hf (fun g hg => .inr (by have := (h.row.ge g (by simpa using hg)).1; omega))⟩, ⟨g, c, hf.get hx (fun hm' => (h.ap X (by simpa using hm')).2 rfl), ((k1.mono (G' := fun k => BqG P X hv.ownBlock k ∧ k < wr.heap.size) (fun g' hg' hq => ⟨hq, hg'⟩)).fr hf (fun g hg hq => hq.1.2.2 (by simpa using hg))).mono (fun g' _ hq => ⟨hq.1.1, hq.1.2.1, hH g' hq.2 hq.1.2.2⟩)⟩, h.np, h.ge, ho, fun g hg' => ?_⟩
  rcases hm with hm | hm
  · rw [hm] at hg'; exact h.ap g hg'
  · rw [hm] at hg'
    injection hg' with hg'
    subst hg'
    exact ⟨fun hp => by have := (h.bt.hP _ hp).2; omega, by omega⟩
end
theorem BqI.start {w w0 w1 : World} {P : Nat → Prop} {p : Nat} {v : Value} (h : BtI2 w w0 P p Bt.new) (hv : BqV (w0.heap.size ≤ ·) w1 v Bt.Qt.new) (hf : Fr [] w0 w1) : ∃ g c, v = .agg #[.slice (some ⟨g, 0, none⟩) 1 c, .int .i64 0] ∧ BqI w (w1.alloc (.cells #[.slice (some ⟨g, 0, none⟩) 1 c, .int .i64 0] 47)) P p w1.heap.size Bt.new Bt.Qt.new (.slice none 0 0) [] := by
  obtain ⟨g, c, rfl, h1⟩ := hv.form
  have fa : Fr [] w1 (w1.alloc (.cells #[.slice (some ⟨g, 0, none⟩) 1 c, .int .i64 0] 47)) := (Fr.refl _ _).alloc _
  have hG : ∀ g, g < w1.heap.size → w0.heap.size ≤ g → BqG P w1.heap.size (Value.slice none 0 0).ownBlock g := fun g hg hq => ⟨fun hp => by have := (h.hP g hp).2; omega, by omega, fun e => by cases e⟩
  refine ⟨g, c, rfl, (h.step hf).step fa, ⟨g, c, heap_alloc_new w1 _, (h1.mono hG).step fa⟩, fun hp => by have := (h.hP _ hp).2; have := hf.size; omega, ?_, Own.nil _ _ _, fun g hg => by cases hg⟩
  have := h.fr.size
  have := hf.size
  omega
/-- What the loop of BtreePlays holds: so many keys are in, in the order in which they came (ks). -/
def BqL (w wr : World) (p X : Nat) (hv : Value) : Prop := ∃ P s q ks, BqI w wr P p X s q hv ks ∧ Bt.Same s q ∧ Bt.Small (4 * s.many) q.ns ∧ q.ns.length ≤ 5 * s.many + 1 ∧ ks.Nodup ∧ ks.length = s.many ∧ ∀ x, x ∈ ks ↔ x ∈ s.keys
end Go.Proofs.YtokbhiokcoldbaaDoor

/- The document's tree by numbers, in plain Lean: how great its table grows. No program in sight. -/
namespace Go.Proofs.YtokbhiokcoldbaaDoor
namespace Bt
theorem Small.mono {b b' : Nat} {ns : List Nn} (h : Small b ns) (hb : b ≤ b') : Small b' ns := fun i => ⟨Nat.le_trans (h i).1 hb, Nat.le_trans (h i).2 hb⟩
theorem small_new : Small 0 Qt.new.ns := fun i => by
  unfold nd Qt.new
  cases i with
  | zero => exact ⟨Nat.le_refl _, Nat.le_refl _⟩
  | succ i => exact ⟨Nat.le_refl _, Nat.le_refl _⟩
theorem path_len' (ns : List Nn) (x : Int) : ∀ (d i : Nat), (path ns x d i).length = d + 1
  | 0, _ => rfl
  | d + 1, i => by
    show (i :: path ns x d _).length = _
    rw [List.length_cons, path_len' ns x d]
/-- Each insertion makes nodes greater by so much at most, and lays so many. -/
theorem small_put {b d : Nat} {q : Qt} (h : Small b q.ns) (hd : d ≤ 3) (x : Int) : Small (b + 4) (q.put d x).ns ∧ (q.put d x).ns.length ≤ q.ns.length + 5 := by
  have h1 := upw_small (x := x) h (path q.ns x d q.root)
  have h2 := upw_len (ns := q.ns) (x := x) (path q.ns x d q.root)
  rw [path_len'] at h1 h2
  unfold Qt.put
  rcases hu : upw q.ns x (path q.ns x d q.root) with ⟨ns', o⟩
  rw [hu] at h1 h2
  dsimp only at h1 h2
  cases o with
  | none => exact ⟨h1.mono (by omega), by show ns'.length ≤ _; omega⟩
  | some kk =>
    obtain ⟨k, kid⟩ := kk
    refine ⟨fun i => ?_, ?_⟩
    · show (nd (ns' ++ [([k], [(q.root : Int), kid])]) i).1.length ≤ b + 4 ∧ (nd (ns' ++ [([k], [(q.root : Int), kid])]) i).2.length ≤ b + 4
      obtain ⟨z, hz⟩ : ∃ z, nd (ns' ++ [([k], [(q.root : Int), kid])]) i = z := ⟨_, rfl⟩
      rw [hz]
      rw [nd_app'] at hz
      split at hz
      · subst hz; exact ⟨by simp, by simp⟩
      · subst hz; exact ⟨Nat.le_trans (h1 i).1 (by omega), Nat.le_trans (h1 i).2 (by omega)⟩
    · show (ns' ++ [([k], [(q.root : Int), kid])]).length ≤ _
      rw [List.length_append, List.length_singleton]
      omega
end Bt
end Go.Proofs.YtokbhiokcoldbaaDoor
