/- A disk whose turns can be undone, in memory. -/
import Derived.Test.YtmhmbgkpojgbbabDoorCommon
import Derived.Test.YtmhmbgkpojgbbabDoorUnPlain
import Derived.Test.YtmhmbgkpojgbbabDoorOwn2
import Derived.Test.YtmhmbgkpojgbbabDoorEnc2
import Derived.Test.YtmhmbgkpojgbbabDoorFrP
namespace Go.Proofs.YtmhmbgkpojgbbabDoor
open Go.RowKit

/-- How a record lies in cells. -/
def enP : Enc Un.P where
  k := 3
  enc := fun r => [.int .i64 r.t, .int .i64 r.b, .int .i64 r.v]
  len := fun _ => rfl
  one := fun a v hv => by
    simp only [List.mem_cons, List.not_mem_nil, or_false] at hv
    rcases hv with rfl | rfl | rfl <;> rfl
  pos := by decide
theorem Tryd.info_put : (Tryd.prog.info? 36).map (fun i => (i.zero, i.size, i.bytes)) = some (some (.agg #[.int .i64 0, .int .i64 0, .int .i64 0]), enP.k, 24) := by kernel_rfl
/-- The disk's own block: eight blocks, what was there, whose each block is. -/
def unRow (blk : List Int) (lv : Value) (busy : List Int) : Array Value := ((ints blk).toList ++ [lv] ++ (ints busy).toList).toArray
section
variable {blk busy : List Int} {lv : Value}
theorem unRow_blk (i : Nat) (h : i < blk.length) : (unRow blk lv busy)[i]? = some (.int .i64 (nth blk i)) := by
  unfold unRow
  rw [List.getElem?_toArray, List.append_assoc, List.getElem?_append_left (by simpa using h)]
  simpa using ints_get blk i h
theorem unRow_was (h : blk.length = 8) : (unRow blk lv busy)[8]? = some lv := by
  have hl : (ints blk).toList.length = 8 := by simp [h]
  unfold unRow
  rw [List.getElem?_toArray, List.append_assoc, List.getElem?_append_right (by omega), hl]; rfl
theorem unRow_busy (h : blk.length = 8) (i : Nat) (hi : i < busy.length) : (unRow blk lv busy)[9 + i]? = some (.int .i64 (nth busy i)) := by
  have hl : ((ints blk).toList ++ [lv]).length = 9 := by simp [h]
  unfold unRow
  rw [List.getElem?_toArray, List.getElem?_append_right (by omega), hl, Nat.add_sub_cancel_left]
  simpa using ints_get busy i hi
theorem unRow_size (h : blk.length = 8) (h2 : busy.length = 8) : (unRow blk lv busy).size = 17 := by
  unfold unRow
  rw [List.size_toArray, List.length_append, List.length_append]
  simp [h, h2]
theorem unRow_setBlk (h : blk.length = 8) (i : Nat) (hi : i < 8) (x : Int) : (unRow blk lv busy).setIfInBounds i (.int .i64 x) = unRow (blk.set i x) lv busy := by
  have hl : (ints blk).toList.length = 8 := by simp [h]
  have e := congrArg Array.toList (ints_set blk i x)
  rw [Array.toList_setIfInBounds] at e
  unfold unRow
  rw [List.setIfInBounds_toArray, List.append_assoc, List.set_append_left _ _ (by omega), e, List.append_assoc]
theorem unRow_setWas (h : blk.length = 8) (x : Value) : (unRow blk lv busy).setIfInBounds 8 x = unRow blk x busy := by
  have hl : (ints blk).toList.length = 8 := by simp [h]
  unfold unRow
  rw [List.setIfInBounds_toArray, List.append_assoc, List.set_append_right _ _ (by omega), hl, List.append_assoc]; rfl
theorem unRow_setBusy (h : blk.length = 8) (i : Nat) (x : Int) : (unRow blk lv busy).setIfInBounds (9 + i) (.int .i64 x) = unRow blk lv (busy.set i x) := by
  have hl : ((ints blk).toList ++ [lv]).length = 9 := by simp [h]
  have e := congrArg Array.toList (ints_set busy i x)
  rw [Array.toList_setIfInBounds] at e
  unfold unRow
  rw [List.setIfInBounds_toArray, List.set_append_right _ _ (by omega), hl, Nat.add_sub_cancel_left, e]
end
/-- Block b holds the disk d; lv what was there. Of all its blocks P holds. -/
structure UnB (P : Nat → Prop) (w : World) (b : Nat) (lv : Value) (d : Un.D) : Prop where
  gb : P b
  gl : ∀ g, lv.ownBlock = some g → P g
  file : w.heap[b]? = some (.cells (unRow d.blk lv d.busy) 48 (0, 0))
  row : OwnR enP w 0 36 lv d.was
section
variable {P P' : Nat → Prop} {w w' : World} {b : Nat} {lv : Value} {d : Un.D}
theorem UnB.was (h : UnB P w b lv d) (hl : d.blk.length = 8) : w.cell? ⟨b, 8, none⟩ = some lv := by rw [cell_of_row w b _ _ _ _ h.file]; exact unRow_was hl
theorem UnB.blk (h : UnB P w b lv d) {i : Nat} (hi : i < d.blk.length) : w.cell? ⟨b, i, none⟩ = some (.int .i64 (nth d.blk i)) := by rw [cell_of_row w b _ _ _ _ h.file]; exact unRow_blk i hi
theorem UnB.busy (h : UnB P w b lv d) (hl : d.blk.length = 8) {i : Nat} (hi : i < d.busy.length) : w.cell? ⟨b, 9 + i, none⟩ = some (.int .i64 (nth d.busy i)) := by rw [cell_of_row w b _ _ _ _ h.file]; exact unRow_busy hl i hi
theorem UnB.free (h : UnB P w b lv d) (i : Nat) : w.frozen? ⟨b, i, none⟩ = false := free_block h.file i none
theorem UnB.sl (h : UnB P w b lv d) (hl : d.blk.length = 8) : Sl w (.slice (some ⟨b, 0, none⟩) 8 8) b d.blk :=
  .inr ⟨0, 8, by rw [hl], by omega, by decide, fun i hi => by rw [Nat.zero_add]; exact h.blk hi⟩
theorem UnB.own (h : UnB P w b lv d) : (d.was = [] ∧ lv = .slice none 0 0) ∨ ∃ g cap cur, lv = .slice (some ⟨g, 0, none⟩) d.was.length cap ∧ w.heap[g]? = some (.cells cur 36 (0, 0)) ∧ d.was.length ≤ cap ∧ cap ≤ maxLen ∧ cur.size = cap * 3 ∧ cur.toList.take (d.was.length * 3) = enP.cells d.was := by
  obtain ⟨h1, h2⟩ := h.row
  rcases h2 with ⟨rfl, hn⟩ | ⟨g, cap, cur, rfl, hb, hg, hc, hm, hs, ht⟩
  · exact .inl ⟨List.eq_nil_of_length_eq_zero hn, rfl⟩
  · exact .inr ⟨g, cap, cur, rfl, hg, hc, hm, hs, ht⟩
theorem UnB.form (h : UnB P w b lv d) : ∃ A c, lv = .slice A d.was.length c := by
  rcases h.own with ⟨e, rfl⟩ | ⟨g, cap, cur, rfl, _⟩
  · exact ⟨none, 0, by rw [e]; rfl⟩
  · exact ⟨_, cap, rfl⟩
theorem UnB.ne2 (h : UnB P w b lv d) : lv.ownBlock ≠ some b := by
  rcases h.own with ⟨_, rfl⟩ | ⟨g, cap, cur, rfl, hg, _⟩
  · intro e; cases e
  · intro e
    have e : g = b := by simpa [Value.ownBlock] using e
    subst e
    rw [h.file] at hg
    injection hg with hg
    injection hg with _ hg _
    cases hg
theorem UnB.lt (h : UnB P w b lv d) : b < w.heap.size ∧ ∀ g, lv.ownBlock = some g → g < w.heap.size := ⟨lt_of_heap h.file, fun g hg => (h.row.ge g hg).2⟩
theorem UnB.fr {S : List Nat} (h : UnB P w b lv d) (hf : Fr S w w') (hb : b ∉ S) (hg : ∀ g ∈ S, lv.ownBlock ≠ some g) : UnB P w' b lv d := ⟨h.gb, h.gl, hf.get h.file hb, h.row.kept hf hg⟩
theorem UnB.keep (h : UnB P w b lv d) (hf : Fr [] w w') : UnB P w' b lv d := h.fr hf (by simp) (by simp)
theorem UnB.imp (h : UnB P w b lv d) (hp : ∀ k, P k → P' k) : UnB P' w b lv d := ⟨hp _ h.gb, fun g hg => hp g (h.gl g hg), h.file, h.row⟩
theorem UnB.tight (h : UnB P w b lv d) : UnB (fun k => P k ∧ k < w.heap.size) w b lv d := ⟨⟨h.gb, h.lt.1⟩, fun g hg => ⟨h.gl g hg, h.lt.2 g hg⟩, h.file, h.row⟩
theorem UnB.frP {Q : Nat → Prop} (h : UnB P w b lv d) (hf : FrP Q w w') (hPQ : ∀ k, P k → ¬ Q k) : UnB P w' b lv d := by
  refine ⟨h.gb, h.gl, (hf.block b h.lt.1 (hPQ b h.gb)).trans h.file, ?_⟩
  obtain ⟨h1, h2⟩ := h.row
  refine ⟨h1, ?_⟩
  rcases h2 with h2 | ⟨g, cap, cur, e, hb, hg, r⟩
  · exact .inl h2
  · exact .inr ⟨g, cap, cur, e, hb, (hf.block g (lt_of_heap hg) (hPQ g (h.gl g (by rw [e]; rfl)))).trans hg, r⟩
theorem UnB.one (w : World) (b i : Nat) (v : Value) : Fr [b] w (w.setCell ⟨b, i, none⟩ v) := (Fr.refl _ w).setCell (.inl (by simp)) _
theorem UnB.kept1 (h : UnB P w b lv d) (i : Nat) (v : Value) : OwnR enP (w.setCell ⟨b, i, none⟩ v) 0 36 lv d.was := h.row.kept (UnB.one w b i v) (fun g hm => by simp only [List.mem_singleton] at hm; rw [hm]; exact h.ne2)
theorem UnB.setBlk (h : UnB P w b lv d) (hl : d.blk.length = 8) {i : Nat} (hi : i < 8) (x : Int) : UnB P (w.setCell ⟨b, i, none⟩ (.int .i64 x)) b lv ⟨d.blk.set i x, d.was, d.busy⟩ :=
  ⟨h.gb, h.gl, by rw [set_block h.file, unRow_setBlk hl i hi], h.kept1 i _⟩
theorem UnB.setBusy (h : UnB P w b lv d) (hl : d.blk.length = 8) (i : Nat) (x : Int) : UnB P (w.setCell ⟨b, 9 + i, none⟩ (.int .i64 x)) b lv ⟨d.blk, d.was, d.busy.set i x⟩ :=
  ⟨h.gb, h.gl, by rw [set_block h.file, unRow_setBusy hl i], h.kept1 _ _⟩
/-- What was there has turned in its own block, or lies in another one. -/
theorem UnB.newWas (h : UnB P w b lv d) (hl : d.blk.length = 8) {w2 : World} {lv' : Value} {was : List Un.P} {S : List Nat} (hf : Fr S w w2) (hS : b ∉ S) (hr : OwnR enP w2 0 36 lv' was) (hn : lv'.ownBlock ≠ some b) (hP : ∀ k, P k → P' k) (hg : ∀ g, lv'.ownBlock = some g → P' g) :
    UnB P' (w2.setCell ⟨b, 8, none⟩ lv') b lv' ⟨d.blk, was, d.busy⟩ := by
  have e1 := hf.get h.file hS
  exact ⟨hP _ h.gb, hg, by rw [set_block e1, unRow_setWas hl], hr.kept (UnB.one w2 b 8 lv') (fun g hm => by simp only [List.mem_singleton] at hm; rw [hm]; exact hn)⟩
end
/-- A disk in memory: its own block b. -/
def UnF (P : Nat → Prop) (w : World) (b : Nat) (d : Un.D) : Prop := Un.OK d ∧ ∃ lv, UnB P w b lv d
theorem UnF.keep {P : Nat → Prop} {w w' : World} {b : Nat} {d : Un.D} (h : UnF P w b d) (hf : Fr [] w w') : UnF P w' b d := by
  obtain ⟨h0, lv, h1⟩ := h
  exact ⟨h0, lv, h1.keep hf⟩
theorem UnF.imp {P P' : Nat → Prop} {w : World} {b : Nat} {d : Un.D} (h : UnF P w b d) (hp : ∀ k, P k → P' k) : UnF P' w b d := by
  obtain ⟨h0, lv, h1⟩ := h
  exact ⟨h0, lv, h1.imp hp⟩
theorem UnF.tight {P : Nat → Prop} {w : World} {b : Nat} {d : Un.D} (h : UnF P w b d) : UnF (fun k => P k ∧ k < w.heap.size) w b d := by
  obtain ⟨h0, lv, h1⟩ := h
  exact ⟨h0, lv, h1.tight⟩
theorem UnF.frP {P Q : Nat → Prop} {w w' : World} {b : Nat} {d : Un.D} (h : UnF P w b d) (hf : FrP Q w w') (hPQ : ∀ k, P k → ¬ Q k) : UnF P w' b d := by
  obtain ⟨h0, lv, h1⟩ := h
  exact ⟨h0, lv, h1.frP hf hPQ⟩
/-- The call hands back v and leaves the disk d. -/
def UnAns (P : Nat → Prop) (b : Nat) (v : Value) (d : Un.D) (w : World) (e : Ending) (w' : World) : Prop := e = .returned v ∧ UnF (OrNew P w) w' b d ∧ FrP P w w'
theorem UnAns.none {w w' : World} {P : Nat → Prop} {b : Nat} {d : Un.D} {v : Value} {e : Ending} (h : UnF P w b d) (he : e = .returned v) (hf : Fr [] w w') : UnAns P b v d w e w' := ⟨he, (h.keep hf).imp (fun _ h => .inl h), (FrP.refl P w).step hf (by simp)⟩
end Go.Proofs.YtmhmbgkpojgbbabDoor
