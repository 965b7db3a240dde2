/- A disk with a log ahead of it, in memory. -/
import Derived.Test.YtmhmbgkpojgbbaaDoorCommon
import Derived.Test.YtmhmbgkpojgbbaaDoorWlPlain2
import Derived.Test.YtmhmbgkpojgbbaaDoorOwn2
import Derived.Test.YtmhmbgkpojgbbaaDoorFrP
import Derived.Test.YtmhmbgkpojgbbaaDoorSet
namespace Go.Proofs.YtmhmbgkpojgbbaaDoor
open Go.RowKit

/-- How a record lies in cells. -/
def enR : Enc Wl.R where
  k := 4
  enc := fun r => [.int .i64 r.t, .int .i64 r.b, .int .i64 r.v, .bool r.e]
  len := fun _ => rfl
  one := fun a v hv => by
    simp only [List.mem_cons, List.not_mem_nil, or_false] at hv
    rcases hv with rfl | rfl | rfl | rfl <;> rfl
  pos := by decide
theorem Tryd.info_rec : (Tryd.prog.info? 87).map (fun i => (i.zero, i.size, i.bytes)) = some (some (.agg #[.int .i64 0, .int .i64 0, .int .i64 0, .bool false]), enR.k, 32) := by kernel_rfl
theorem zero_bool (w : World) : (zeroValue 4).run Tryd.prog w = .ok (.bool false) w := by kernel_rfl
/-- A set of the program's own. -/
abbrev St (w : World) (b n : Nat) (L : List Int) : Prop := SetI Tryd.prog 3 4 w b n L
theorem set_Add (w : World) (b n : Nat) (L : List Int) (x : Int) (h : St w b n L) (hx : I64 x) (hn : n < 1000000) :
    Calls Tryd.prog 52 #[.map (some b), .int .i64 x] w fun e w' => e = .returned (.bool (!hasB L x)) ∧ St w' b (n + 1) (L ++ [x]) ∧ Fr [b] w w' := by
  have H := Lib.hid h
  have HX := Lib.hid hx
  have hn' : n < maxLen := by unfold maxLen; omega
  clear h hx
  go_enter Tryd.func52, Tryd.ntmps52
  go_wp2_with (first
    | (at_lookup; refine wpList_lookup_set rfl _ _ rfl H.out Tryd.underlying3 Tryd.underlying4 Tryd.underlying80 (zero_bool _) rfl _ rfl HX.out ?_)
    | (at_mapUpdate; refine wpList_update_set rfl _ _ _ rfl H.out Tryd.underlying3 Tryd.underlying4 Tryd.underlying80 hn' rfl _ rfl rfl HX.out ?_; intro w1 h1 h2; have H1 := Lib.hid h1; have H2 := Lib.hid h2; clear h1 h2))
  go_ret
  exact ⟨rfl, H1.out, H2.out⟩

/-- The disk's own block: eight blocks at home, the log, how much lasts, the turns that have ended. -/
def wlRow (home : List Int) (lv : Value) (s : Nat) (mb : Nat) : Array Value := ((ints home).toList ++ [lv, .int .i64 s, .map (some mb)]).toArray
theorem wlRow_home {home : List Int} {lv : Value} {s mb : Nat} (i : Nat) (h : i < home.length) : (wlRow home lv s mb)[i]? = some (.int .i64 (nth home i)) := by
  unfold wlRow
  rw [List.getElem?_toArray, List.getElem?_append_left (by simpa using h)]
  simpa using ints_get home i h
theorem wlRow_rest {home : List Int} {lv : Value} {s mb : Nat} (h : home.length = 8) : (wlRow home lv s mb)[8]? = some lv ∧ (wlRow home lv s mb)[9]? = some (.int .i64 s) ∧ (wlRow home lv s mb)[10]? = some (.map (some mb)) := by
  have hl : (ints home).toList.length = 8 := by simp [h]
  unfold wlRow
  refine ⟨?_, ?_, ?_⟩ <;> rw [List.getElem?_toArray, List.getElem?_append_right (by omega), hl] <;> rfl
theorem wlRow_size {home : List Int} {lv : Value} {s mb : Nat} (h : home.length = 8) : (wlRow home lv s mb).size = 11 := by
  unfold wlRow
  rw [List.size_toArray, List.length_append]
  simp [h]
theorem wlRow_set8 {home : List Int} {lv : Value} {s mb : Nat} (h : home.length = 8) (x : Value) : (wlRow home lv s mb).setIfInBounds 8 x = wlRow home x s mb := by
  have hl : (ints home).toList.length = 8 := by simp [h]
  unfold wlRow
  rw [List.setIfInBounds_toArray, List.set_append_right _ _ (by omega), hl]; rfl
theorem wlRow_set9 {home : List Int} {lv : Value} {s mb : Nat} (h : home.length = 8) (x : Nat) : (wlRow home lv s mb).setIfInBounds 9 (.int .i64 x) = wlRow home lv x mb := by
  have hl : (ints home).toList.length = 8 := by simp [h]
  unfold wlRow
  rw [List.setIfInBounds_toArray, List.set_append_right _ _ (by omega), hl]; rfl
theorem wlRow_set10 {home : List Int} {lv : Value} {s mb : Nat} (h : home.length = 8) (x : Nat) : (wlRow home lv s mb).setIfInBounds 10 (.map (some x)) = wlRow home lv s x := by
  have hl : (ints home).toList.length = 8 := by simp [h]
  unfold wlRow
  rw [List.setIfInBounds_toArray, List.set_append_right _ _ (by omega), hl]; rfl
/-- Block b holds the disk d; mb the set of the turns L; lv the log. Of all its blocks P holds. -/
structure WlB (P : Nat → Prop) (w : World) (b mb : Nat) (lv : Value) (d : Wl.D) (L : List Int) : Prop where
  gb : P b
  gm : P mb
  gl : ∀ g, lv.ownBlock = some g → P g
  file : w.heap[b]? = some (.cells (wlRow d.home lv d.syn mb) 83 (0, 0))
  row : OwnR enR w 0 87 lv d.log
  set : St w mb L.length L
section
variable {P P' : Nat → Prop} {w w' : World} {b mb : Nat} {lv : Value} {d : Wl.D} {L : List Int}
theorem WlB.cells (h : WlB P w b mb lv d L) (hl : d.home.length = 8) : w.cell? ⟨b, 8, none⟩ = some lv ∧ w.cell? ⟨b, 9, none⟩ = some (.int .i64 d.syn) ∧ w.cell? ⟨b, 10, none⟩ = some (.map (some mb)) := by
  obtain ⟨h1, h2, h3⟩ := wlRow_rest (home := d.home) (lv := lv) (s := d.syn) (mb := mb) hl
  exact ⟨by rw [cell_of_row w b _ _ _ _ h.file]; exact h1, by rw [cell_of_row w b _ _ _ _ h.file]; exact h2, by rw [cell_of_row w b _ _ _ _ h.file]; exact h3⟩
theorem WlB.free (h : WlB P w b mb lv d L) (i : Nat) : w.frozen? ⟨b, i, none⟩ = false := free_block h.file i none
theorem WlB.home (h : WlB P w b mb lv d L) (hl : d.home.length = 8) : Sl w (.slice (some ⟨b, 0, none⟩) 8 8) b d.home := by
  refine .inr ⟨0, 8, by rw [hl], by omega, by decide, fun i hi => ?_⟩
  rw [Nat.zero_add, cell_of_row w b _ _ _ _ h.file]
  exact wlRow_home i hi
theorem WlB.ne1 (h : WlB P w b mb lv d L) : b ≠ mb := by
  obtain ⟨es, clock, h0, r⟩ := h.set
  rintro rfl
  rw [h.file] at h0
  cases h0
theorem WlB.own (h : WlB P w b mb lv d L) : (d.log = [] ∧ lv = .slice none 0 0) ∨ ∃ g cap cur, lv = .slice (some ⟨g, 0, none⟩) d.log.length cap ∧ w.heap[g]? = some (.cells cur 87 (0, 0)) ∧ d.log.length ≤ cap ∧ cap ≤ maxLen ∧ cur.size = cap * 4 ∧ cur.toList.take (d.log.length * 4) = enR.cells d.log := by
  obtain ⟨h1, h2⟩ := h.row
  rcases h2 with ⟨rfl, hn⟩ | ⟨g, cap, cur, rfl, hb, hg, hc, hm, hs, ht⟩
  · exact .inl ⟨List.eq_nil_of_length_eq_zero hn, rfl⟩
  · exact .inr ⟨g, cap, cur, rfl, hg, hc, hm, hs, ht⟩
theorem WlB.form (h : WlB P w b mb lv d L) : ∃ A c, lv = .slice A d.log.length c := by
  rcases h.own with ⟨e, rfl⟩ | ⟨g, cap, cur, rfl, _⟩
  · exact ⟨none, 0, by rw [e]; rfl⟩
  · exact ⟨_, cap, rfl⟩
theorem WlB.ne2 (h : WlB P w b mb lv d L) : lv.ownBlock ≠ some b := by
  rcases h.own with ⟨_, rfl⟩ | ⟨g, cap, cur, rfl, hg, _⟩
  · intro e; cases e
  · intro e
    have e : g = b := by simpa [Value.ownBlock] using e
    subst e
    rw [h.file] at hg
    injection hg with hg
    injection hg with _ hg _
    cases hg
theorem WlB.ne3 (h : WlB P w b mb lv d L) : lv.ownBlock ≠ some mb := by
  obtain ⟨es, clock, h0, r⟩ := h.set
  rcases h.own with ⟨_, rfl⟩ | ⟨g, cap, cur, rfl, hg, _⟩
  · intro e; cases e
  · intro e
    have e : g = mb := by simpa [Value.ownBlock] using e
    subst e
    rw [hg] at h0
    cases h0
theorem WlB.lt (h : WlB P w b mb lv d L) : b < w.heap.size ∧ mb < w.heap.size ∧ ∀ g, lv.ownBlock = some g → g < w.heap.size := ⟨lt_of_heap h.file, SetI.lt h.set, fun g hg => (h.row.ge g hg).2⟩
theorem WlB.fr {S : List Nat} (h : WlB P w b mb lv d L) (hf : Fr S w w') (hb : b ∉ S) (hm : mb ∉ S) (hg : ∀ g ∈ S, lv.ownBlock ≠ some g) : WlB P w' b mb lv d L :=
  ⟨h.gb, h.gm, h.gl, hf.get h.file hb, h.row.kept hf hg, h.set.fr hf hm⟩
theorem WlB.keep (h : WlB P w b mb lv d L) (hf : Fr [] w w') : WlB P w' b mb lv d L := h.fr hf (by simp) (by simp) (by simp)
theorem WlB.imp (h : WlB P w b mb lv d L) (hp : ∀ k, P k → P' k) : WlB P' w b mb lv d L := ⟨hp _ h.gb, hp _ h.gm, fun g hg => hp g (h.gl g hg), h.file, h.row, h.set⟩
theorem WlB.tight (h : WlB P w b mb lv d L) : WlB (fun k => P k ∧ k < w.heap.size) w b mb lv d L := ⟨⟨h.gb, h.lt.1⟩, ⟨h.gm, h.lt.2.1⟩, fun g hg => ⟨h.gl g hg, h.lt.2.2 g hg⟩, h.file, h.row, h.set⟩
/-- What is not of P has turned. -/
theorem WlB.frP {Q : Nat → Prop} (h : WlB P w b mb lv d L) (hf : FrP Q w w') (hPQ : ∀ k, P k → ¬ Q k) : WlB P w' b mb lv d L := by
  refine ⟨h.gb, h.gm, h.gl, (hf.block b h.lt.1 (hPQ b h.gb)).trans h.file, ?_, ?_⟩
  · obtain ⟨h1, h2⟩ := h.row
    refine ⟨h1, ?_⟩
    rcases h2 with h2 | ⟨g, cap, cur, e, hb, hg, r⟩
    · exact .inl h2
    · exact .inr ⟨g, cap, cur, e, hb, (hf.block g (lt_of_heap hg) (hPQ g (h.gl g (by rw [e]; rfl)))).trans hg, r⟩
  · obtain ⟨es, clock, h0, r⟩ := h.set
    exact ⟨es, clock, (hf.block mb (lt_of_heap h0) (hPQ mb h.gm)).trans h0, r⟩
/-- The log is another one, in memory already. -/
theorem WlB.setLog (h : WlB P w b mb lv d L) (hl : d.home.length = 8) {lv' : Value} {log : List Wl.R} (hr : OwnR enR w 0 87 lv' log) (hn : lv'.ownBlock ≠ some b) (hg : ∀ g, lv'.ownBlock = some g → P g) :
    WlB P (w.setCell ⟨b, 8, none⟩ lv') b mb lv' ⟨d.home, log, d.syn⟩ L := by
  have hf : Fr [b] w (w.setCell ⟨b, 8, none⟩ lv') := (Fr.refl _ w).setCell (.inl (by simp)) _
  exact ⟨h.gb, h.gm, hg, by rw [set_block h.file, wlRow_set8 hl], hr.kept hf (fun g hm => by simp only [List.mem_singleton] at hm; rw [hm]; exact hn), h.set.fr hf (by simpa using Ne.symm h.ne1)⟩
/-- The log has turned in its own block, or lies in another one. -/
theorem WlB.newLog (h : WlB P w b mb lv d L) (hl : d.home.length = 8) {w2 : World} {lv' : Value} {log : List Wl.R} (hf : Fr lv.ownBlock.toList w w2) (hr : OwnR enR w2 0 87 lv' log) (hn : lv'.ownBlock ≠ some b) (hP : ∀ k, P k → P' k) (hg : ∀ g, lv'.ownBlock = some g → P' g) :
    WlB P' (w2.setCell ⟨b, 8, none⟩ lv') b mb lv' ⟨d.home, log, d.syn⟩ L := by
  have e1 := hf.get h.file (by simpa using h.ne2)
  have e2 := h.set.fr hf (by simpa using h.ne3)
  have hf : Fr [b] w2 (w2.setCell ⟨b, 8, none⟩ lv') := (Fr.refl _ w2).setCell (.inl (by simp)) _
  exact ⟨hP _ h.gb, hP _ h.gm, hg, by rw [set_block e1, wlRow_set8 hl], hr.kept hf (fun g hm => by simp only [List.mem_singleton] at hm; rw [hm]; exact hn), e2.fr hf (by simpa using Ne.symm h.ne1)⟩
theorem WlB.setSyn (h : WlB P w b mb lv d L) (hl : d.home.length = 8) (n : Nat) : WlB P (w.setCell ⟨b, 9, none⟩ (.int .i64 n)) b mb lv ⟨d.home, d.log, n⟩ L := by
  have hf : Fr [b] w (w.setCell ⟨b, 9, none⟩ (.int .i64 n)) := (Fr.refl _ w).setCell (.inl (by simp)) _
  exact ⟨h.gb, h.gm, h.gl, by rw [set_block h.file, wlRow_set9 hl], h.row.kept hf (fun g hm => by simp only [List.mem_singleton] at hm; rw [hm]; exact h.ne2), h.set.fr hf (by simpa using Ne.symm h.ne1)⟩
/-- The set is another one. -/
theorem WlB.setMap (h : WlB P w b mb lv d L) (hl : d.home.length = 8) {mb' : Nat} {L' : List Int} (hs : St w mb' L'.length L') (hn : b ≠ mb') (hp : P mb') : WlB P (w.setCell ⟨b, 10, none⟩ (.map (some mb'))) b mb' lv d L' := by
  have hf : Fr [b] w (w.setCell ⟨b, 10, none⟩ (.map (some mb'))) := (Fr.refl _ w).setCell (.inl (by simp)) _
  exact ⟨h.gb, hp, h.gl, by rw [set_block h.file, wlRow_set10 hl], h.row.kept hf (fun g hm => by simp only [List.mem_singleton] at hm; rw [hm]; exact h.ne2), hs.fr hf (by simpa using Ne.symm hn)⟩
/-- A turn more. -/
theorem WlB.add (h : WlB P w b mb lv d L) {x : Int} (hs : St w' mb (L.length + 1) (L ++ [x])) (hf : Fr [mb] w w') : WlB P w' b mb lv d (L ++ [x]) :=
  ⟨h.gb, h.gm, h.gl, hf.get h.file (by simpa using h.ne1), h.row.kept hf (fun g hm => by simp only [List.mem_singleton] at hm; rw [hm]; exact h.ne3), by rw [List.length_append]; exact hs⟩
end
/-- A disk in memory: its own block b. -/
def WlF (P : Nat → Prop) (w : World) (b : Nat) (d : Wl.D) : Prop := Wl.OK d ∧ ∃ mb lv, WlB P w b mb lv d (Wl.turns d.log)
theorem WlF.keep {P : Nat → Prop} {w w' : World} {b : Nat} {d : Wl.D} (h : WlF P w b d) (hf : Fr [] w w') : WlF P w' b d := by
  obtain ⟨h0, mb, lv, h1⟩ := h
  exact ⟨h0, mb, lv, h1.keep hf⟩
theorem WlF.imp {P P' : Nat → Prop} {w : World} {b : Nat} {d : Wl.D} (h : WlF P w b d) (hp : ∀ k, P k → P' k) : WlF P' w b d := by
  obtain ⟨h0, mb, lv, h1⟩ := h
  exact ⟨h0, mb, lv, h1.imp hp⟩
theorem WlF.tight {P : Nat → Prop} {w : World} {b : Nat} {d : Wl.D} (h : WlF P w b d) : WlF (fun k => P k ∧ k < w.heap.size) w b d := by
  obtain ⟨h0, mb, lv, h1⟩ := h
  exact ⟨h0, mb, lv, h1.tight⟩
theorem WlF.frP {P Q : Nat → Prop} {w w' : World} {b : Nat} {d : Wl.D} (h : WlF P w b d) (hf : FrP Q w w') (hPQ : ∀ k, P k → ¬ Q k) : WlF P w' b d := by
  obtain ⟨h0, mb, lv, h1⟩ := h
  exact ⟨h0, mb, lv, h1.frP hf hPQ⟩
/-- The call hands back v and leaves the disk d. -/
def WlAns (P : Nat → Prop) (b : Nat) (v : Value) (d : Wl.D) (w : World) (e : Ending) (w' : World) : Prop := e = .returned v ∧ WlF (OrNew P w) w' b d ∧ FrP P w w'
end Go.Proofs.YtmhmbgkpojgbbaaDoor
