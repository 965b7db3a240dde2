/- Rows of structs whose block is rewritten: an element loaded whole, stored whole; the row cut; its tail cleared. No program in sight. -/
import Derived.Laws.CopyRow
import Derived.Test.YtokbhiokcoldbaaDoorLqM02
import Derived.Test.YtokbhiokcoldbaaDoorLqM06
import Derived.Test.YtokbhiokcoldbaaDoorLqM11
namespace Go.Proofs.YtokbhiokcoldbaaDoor
open Go.RowKit
section
variable {α : Type} (E : Enc α)
theorem Enc.cells_part : ∀ (l : List α) (i : Nat) (h : i < l.length), ((E.cells l).drop (i * E.k)).take E.k = E.enc l[i]
  | [], i, h => by simp at h
  | a :: l, 0, h => by
    have e : E.cells (a :: l) = E.enc a ++ E.cells l := rfl
    rw [e, Nat.zero_mul, List.drop_zero, List.take_left' (E.len a)]
    rfl
  | a :: l, i + 1, h => by
    have e : E.cells (a :: l) = E.enc a ++ E.cells l := rfl
    rw [e, Nat.add_mul, Nat.one_mul, Nat.add_comm, ← List.drop_drop, List.drop_left' (E.len a)]
    exact Enc.cells_part l i (by simpa using h)
theorem Enc.cells_take (l : List α) (i : Nat) (h : i ≤ l.length) : (E.cells l).take (i * E.k) = E.cells (l.take i) := by
  have e : E.cells l = E.cells (l.take i) ++ E.cells (l.drop i) := by rw [← E.cells_append, List.take_append_drop]
  rw [e, List.take_left' (by rw [E.cells_len, List.length_take, Nat.min_eq_left h])]
/-- A block whose first cells are the row xs; there is room for cap elements. -/
def DfR (w : World) (e : TypeId) (g cap : Nat) (xs : List α) : Prop := ∃ cur, w.heap[g]? = some (.cells cur e (0, 0)) ∧ cur.size = cap * E.k ∧ xs.length ≤ cap ∧ cur.toList.take (xs.length * E.k) = E.cells xs
variable {E} {w w' : World} {e : TypeId} {g cap : Nat} {xs : List α}
theorem DfR.fr {S : List Nat} (h : DfR E w e g cap xs) (hf : Fr S w w') (hg : g ∉ S) : DfR E w' e g cap xs := by
  obtain ⟨cur, h1, h2⟩ := h
  exact ⟨cur, hf.get h1 hg, h2⟩
theorem DfR.cut (h : DfR E w e g cap xs) {n : Nat} (hn : n ≤ xs.length) : DfR E w e g cap (xs.take n) := by
  obtain ⟨cur, h1, h2, h3, h4⟩ := h
  refine ⟨cur, h1, h2, by rw [List.length_take]; omega, ?_⟩
  rw [List.length_take, Nat.min_eq_left hn, ← E.cells_take xs n hn, ← h4, List.take_take, Nat.min_eq_left (Nat.mul_le_mul_right _ hn)]
theorem DfR.own (h : DfR E w e g cap xs) (hm : cap ≤ maxLen) : OwnR E w 0 e (.slice (some ⟨g, 0, none⟩) xs.length cap) xs := by
  obtain ⟨cur, h1, h2, h3, h4⟩ := h
  exact ⟨E.cells_len xs, .inr ⟨g, cap, cur, rfl, Nat.zero_le _, h1, h3, hm, h2, h4⟩⟩
theorem DfR.room (h : DfR E w e g cap xs) {i : Nat} (hi : i < xs.length) : ∃ cur, w.heap[g]? = some (.cells cur e (0, 0)) ∧ i * E.k + E.k ≤ cur.size ∧ ((cur.toList.drop (i * E.k)).take E.k).toArray = (E.enc xs[i]).toArray := by
  obtain ⟨cur, h1, h2, h3, h4⟩ := h
  have hm := Nat.mul_le_mul_right E.k (Nat.succ_le_of_lt hi)
  have hm2 := Nat.mul_le_mul_right E.k h3
  rw [Nat.succ_mul] at hm
  refine ⟨cur, h1, by omega, ?_⟩
  have e1 := E.cells_part xs i hi
  rw [← h4, List.drop_take, List.take_take, Nat.min_eq_left (by omega)] at e1
  rw [e1]
/-- An element stored. -/
theorem DfR.put (h : DfR E w e g cap xs) {i : Nat} (hi : i < xs.length) (x : α) : ∃ cur new, w.heap[g]? = some (.cells cur e (0, 0)) ∧ i * E.k + E.k ≤ cur.size ∧ (cur.toList.take (i * E.k) ++ E.enc x ++ cur.toList.drop (i * E.k + E.k)).toArray = new ∧ DfR E (w.setRow g new) e g cap (xs.set i x) := by
  obtain ⟨cur, h1, h2, h3, h4⟩ := h
  have hm := Nat.mul_le_mul_right E.k (Nat.succ_le_of_lt hi)
  have hm2 := Nat.mul_le_mul_right E.k h3
  rw [Nat.succ_mul] at hm
  refine ⟨cur, _, h1, by omega, rfl, _, setRow_heap _ _ _ _ _ _ h1, ?_, by rw [List.length_set]; exact h3, ?_⟩
  · rw [List.size_toArray, List.length_append, List.length_append, List.length_take, List.length_drop, E.len, Array.length_toList, h2, Nat.min_eq_left (by omega)]
    omega
  · rw [List.length_set, ← E.cells_set xs i hi x, ← h4]
    have hl : (cur.toList.take (i * E.k)).length = i * E.k := by rw [List.length_take, Array.length_toList]; omega
    rw [List.take_take, Nat.min_eq_left (by omega), List.drop_take]
    rw [List.take_append, List.length_append, hl, E.len, List.take_of_length_le (l := cur.toList.take (i * E.k) ++ E.enc x) (by rw [List.length_append, hl, E.len]; omega)]
/-- What a row's end is cleared to: its front stays. -/
theorem DfR.clear (h : DfR E w e g cap xs) {i : Nat} (hi : i ≤ xs.length) (zs : List Value) (hz : zs.length = (xs.length - i) * E.k) : ∃ cur new, w.heap[g]? = some (.cells cur e (0, 0)) ∧ i * E.k + zs.length ≤ cur.size ∧ (cur.toList.take (i * E.k) ++ zs ++ cur.toList.drop (i * E.k + zs.length)).toArray = new ∧ DfR E (w.setRow g new) e g cap (xs.take i) := by
  obtain ⟨cur, h1, h2, h3, h4⟩ := h
  have hm := Nat.mul_le_mul_right E.k hi
  have hm2 := Nat.mul_le_mul_right E.k h3
  have hm3 : i * E.k + (xs.length - i) * E.k = xs.length * E.k := by rw [← Nat.add_mul]; congr 1; omega
  have hl : (cur.toList.take (i * E.k)).length = i * E.k := by rw [List.length_take, Array.length_toList]; omega
  refine ⟨cur, _, h1, by omega, rfl, _, setRow_heap _ _ _ _ _ _ h1, ?_, by rw [List.length_take]; omega, ?_⟩
  · simp only [List.size_toArray, List.length_append, hl, List.length_drop, Array.length_toList, h2]
    omega
  · rw [List.length_take, Nat.min_eq_left hi, List.append_assoc, List.take_left' hl, ← E.cells_take xs i hi, ← h4, List.take_take, Nat.min_eq_left hm]
end
/-- 'clear(s)' for a slice of structs. -/
theorem run_clear_part {P : Program} (w : World) (t e ty : TypeId) (z : Value) (k : Nat) (ht : P.underlying t = some (.slice e)) (hv : ∀ w, (zeroValue e).run P w = .ok z w) (hz : z.cells.size = k) (h1 : ∀ v ∈ z.cells.toList, v.oneCell' = true) (g o n c : Nat) (hn : 0 < n)
    (cur : Array Value) (hg : w.heap[g]? = some (.cells cur e (0, 0))) (hk : o + n * k ≤ cur.size) :
    ∃ zs : List Value, zs.length = n * k ∧ (Builtin.clear_ #[t] ty #[.slice (some ⟨g, o, none⟩) n c]).run P w = .ok (.tuple #[]) (w.setRow g (cur.toList.take o ++ zs ++ cur.toList.drop (o + zs.length)).toArray) := by
  have hlen : (Builtin.zeroCells z.cells n).toList.length = n * k := by simp [Builtin.zeroCells, hz]
  refine ⟨(Builtin.zeroCells z.cells n).toList, hlen, ?_⟩
  have hst := run_storeCells_at (P := P) g o e (Builtin.zeroCells z.cells n).toList 0 cur w hg (by rw [hlen]; simpa using hk) (fun v hv' => by
    simp only [Builtin.zeroCells, Array.toList_map, List.mem_map, Array.toList_range, List.mem_range] at hv'
    obtain ⟨i, hi, rfl⟩ := hv'
    have hpos : 0 < z.cells.size := Nat.pos_of_ne_zero (fun h0 => by rw [h0, Nat.mul_zero] at hi; omega)
    have hm := Nat.mod_lt i hpos
    rw [getElem!_pos z.cells _ hm]
    exact h1 _ (by simp))
  simp only [Nat.add_zero] at hst
  obtain ⟨m, rfl⟩ : ∃ m, n = m + 1 := ⟨n - 1, by omega⟩
  simp [Builtin.clear_, run_underlying ht, hv, hst]
end Go.Proofs.YtokbhiokcoldbaaDoor
/- set of package lsm: an entry laid into a table that rises. -/
namespace Go.Proofs.YtokbhiokcoldbaaDoor
open Go.RowKit

theorem ent_info : (Tryd.prog.info? 117).map (·.size) = some 2 := by kernel_rfl
set_option maxRecDepth 100000 in
set_option maxHeartbeats 4000000 in
theorem ls_set (w : World) (B : Nat) (v : Value) (l : List (Int × Int)) (k x : Int) (h : OwnR entE w B 117 v l) (hu : Ls.Up l) (hl : l.length ≤ 1000) (hB : B ≤ w.heap.size) :
    Calls Tryd.prog 71 #[v, .agg #[.int .i64 k, .int .i64 x]] w (InsAE w B v (Ls.set l (k, x))) := by
  obtain ⟨g0, -, hs⟩ := h.sl
  obtain ⟨w1, hw1⟩ : ∃ w1, w.alloc (.cells #[.int .i64 k, .int .i64 x] 117) = w1 := ⟨_, rfl⟩
  have hbx : w1.heap[w.heap.size]? = some (.cells #[.int .i64 k, .int .i64 x] 117 (0, 0)) := by rw [← hw1]; exact heap_alloc_new w _
  have hf1 : Fr [] w w1 := by rw [← hw1]; exact (Fr.refl _ _).alloc _
  have HBS := Lib.hid (ls_bs w1 v g0 l (k, x) (hs.fr hf1 (by simp)) hu (by omega))
  have HT := Lib.hid (Ls.set_there (k, x) l)
  have HN := Lib.hid (Ls.set_new (k, x) l)
  have hle := Ls.lb_le k l
  have HO := Lib.hid h
  have HBX := Lib.hid hbx
  have HF1 := Lib.hid hf1
  dsimp only at HBS HT HN
  obtain ⟨A, c, hv⟩ : ∃ A c, v = .slice A l.length c := by
    rcases h.2 with ⟨rfl, hn⟩ | ⟨g, cap, cur, rfl, _⟩
    · exact ⟨none, 0, by rw [hn]⟩
    · exact ⟨_, cap, rfl⟩
  subst hv
  have b0 : w1.cell? ⟨w.heap.size, 0, none⟩ = some (.int .i64 k) := by rw [cell_of_row _ _ _ _ _ _ hbx]; rfl
  have b1 : w1.cell? ⟨w.heap.size, 1, none⟩ = some (.int .i64 x) := by rw [cell_of_row _ _ _ _ _ _ hbx]; rfl
  clear h hs hbx hf1 hu
  go_enter Tryd.func71, Tryd.ntmps71
  go_wp2_with (rw [hw1])
  clear hw1
  have hl0 : (0 : Int) ≤ (Ls.lb k l : Nat) := by omega
  generalize hp : Ls.lb k l = p at *
  go_wp2_with fail
  refine useC HBS.out ?_
  rintro e' w2 ⟨⟨b, rfl, hb⟩, hf⟩
  have hbx2 := hf.get HBX.out (by simp)
  have c0 : w2.cell? ⟨w.heap.size, 0, none⟩ = some (.int .i64 k) := by rw [cell_of_row _ _ _ _ _ _ hbx2]; rfl
  have c1 : w2.cell? ⟨w.heap.size, 1, none⟩ = some (.int .i64 x) := by rw [cell_of_row _ _ _ _ _ _ hbx2]; rfl
  have hF2 := HF1.out.trans hf
  have hO2 := HO.out.kept hF2 (by simp)
  have HF2 := Lib.hid hF2
  have HO2 := Lib.hid hO2
  have hb2 := hF2.size
  clear hf hbx2 HBS b0 b1 hF2 hO2 HO HF1 HBX
  cases b with
  | true =>
    obtain ⟨hlt, he⟩ := hb.1 rfl
    have HE := Lib.hid (HT.out hlt he)
    have i1 : (p : Int) < l.length := by omega
    have hpl : p ≤ 100000 := by omega
    have ⟨ho1, ho2⟩ := HO2.out
    rcases ho2 with ⟨_, hn⟩ | ⟨g, cap, cur, e0, hbg, hg, hc, hm, hs, ht⟩
    · omega
    · injection e0 with e1 e2 e3
      subst e1 e3
      obtain ⟨cur', new, hg', hfit, hnew, hD⟩ := DfR.put (E := entE) (w := w2) (e := 117) (g := g) (cap := c) (xs := l) ⟨cur, hg, hs, hc, ht⟩ hlt (k, x)
      have HG := Lib.hid hg'
      have HNEW := Lib.hid hnew
      have HFI : Hid (InsAE w B (.slice (some ⟨g, 0, none⟩) l.length c) (Ls.set l (k, x)) (.returned (.slice (some ⟨g, 0, none⟩) l.length c)) (w2.setRow g new)) := by
        obtain ⟨cur2, d1, d2, d3, d4⟩ := hD
        refine ⟨⟨_, rfl, own_at d1 hbg (by rw [HE.out, List.length_set]) hc hm d2 ?_, .inl rfl⟩, ?_⟩
        · rw [HE.out, ← d4, List.length_set]
        · have hq := HF2.out
          exact ⟨hq.os, hq.tape, hq.output, by rw [setRow_size]; exact hq.size, fun q hq1 hq2 => (setRow_other w2 g q new (fun e => hq2 (by rw [e]; rfl))).trans (hq.block q hq1 (by simp))⟩
      have HFT : Hid (p * 2 + 2 ≤ cur'.size) := hfit
      clear hfit hnew hD hg' hg hs ht hm hc ho1 he hb HO2 HT HN HE HF2
      go_wp2_with (refine wpList_store_part rfl 117 _ _ rfl g (p * 2) #[.int .i64 k, .int .i64 x] rfl rfl _ cur' HG.out ent_info HFT.out (by simp [Value.oneCell']) new HNEW.out ?_)
      go_ret
      exact HFI.out
  | false =>
    have HE := Lib.hid (HN.out (fun hlt he => by have := hb.2 ⟨hlt, he⟩; cases this))
    have HI := Lib.hid (insE (w2.alloc (.cells #[.int .i64 k, .int .i64 x] 117)) B (.slice A l.length c) p l (k, x) w2.heap.size (HO2.out.alloc _) hle (heap_alloc_new w2 _) (fun e => by have := (HO2.out.ge _ e).2; omega) (by omega) (by simp; omega))
    have HF3 : Hid (Fr [] w (w2.alloc (.cells #[.int .i64 k, .int .i64 x] 117))) := HF2.out.alloc _
    clear hb HT HN HO2 HF2
    go_wp2_with (go_at_call 90; (with_reducible refine useC HI.out ?_); intro e3 w3 h3; have HA := Lib.hid (h3.of HF3.out); obtain ⟨⟨v', rfl, _, _⟩, _⟩ := h3)
    refine bodyPost_ret (v := v') (results_tmp (t := 4) rfl _ _ _) (by rfl) ?_
    rw [HE.out]
    exact HA.out
end Go.Proofs.YtokbhiokcoldbaaDoor
