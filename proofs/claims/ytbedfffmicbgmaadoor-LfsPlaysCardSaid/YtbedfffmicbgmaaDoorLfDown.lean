/- The contracts of package lfs's functions: down. -/
import Derived.Test.YtbedfffmicbgmaaDoorLfWalk
import Derived.Deep.AppendLies
import Derived.Deep.RegionLaw
namespace Go.Proofs.YtbedfffmicbgmaaDoor
open Go.RowKit

theorem Tryd.info_blk : (Tryd.prog.info? 72).map (fun i => (i.zero, i.size, i.bytes)) = some (some (.agg #[.int .i64 0, .int .i64 0]), 2, 16) := by kernel_rfl

section
variable {B : Nat} {w : World} {b : Nat} {d : Lf.D}
theorem lfRow_setSeg {vs : List Value} (hv : vs.length = 6) {i : Nat} (hi : i < 6) (v : Value) (segs : List (List Lf.Blk)) : (lfRow vs d).setIfInBounds i v = lfRow (vs.set i v) ⟨segs, d.pages, d.head⟩ := by
  apply Array.ext'
  simp only [lfRow, Array.toList_setIfInBounds]
  rw [List.append_assoc, List.set_append_left _ _ (by omega), List.append_assoc]
theorem lfRow_setPage {vs : List Value} (hv : vs.length = 6) (hp : d.pages.length = 8) {q : Nat} (hq : q < 8) (x : Int × Int × Bool) :
    ((lfRow vs d).toList.take (6 + q * 3) ++ (spotCells x) ++ (lfRow vs d).toList.drop (6 + q * 3 + 3)).toArray = lfRow vs ⟨d.segs, d.pages.set q x, d.head⟩ := by
  have hl := spots_len d.pages
  have h := spots_set d.pages x q (by omega)
  unfold lfRow
  simp only
  rw [← h]
  congr 1
  rw [hp] at hl
  generalize List.flatMap spotCells d.pages = F at hl
  rw [List.append_assoc vs, List.take_append, List.drop_append, List.take_append, List.drop_append, hv, hl, List.take_of_length_le (l := vs) (by omega), List.drop_of_length_le (l := vs) (by omega), Nat.add_sub_cancel_left, show 6 + q * 3 + 3 - 6 = q * 3 + 3 by omega, show q * 3 - 8 * 3 = 0 by omega, show q * 3 + 3 - 8 * 3 = 0 by omega]
  simp
/-- A page's spot is another one. -/
theorem LfD.setPage (h : LfD B w b d) (hO : d.pages.length = 8) {q : Nat} (hq : q < 8) (x : Int × Int × Bool) {cur : Array Value} (hc : w.heap[b]? = some (.cells cur 67 (0, 0))) :
    LfD B (w.setRow b (cur.toList.take (6 + q * 3) ++ (spotCells x) ++ cur.toList.drop (6 + q * 3 + 3)).toArray) b ⟨d.segs, d.pages.set q x, d.head⟩ := by
  obtain ⟨vs, h1, h2, h3, h4⟩ := h.main
  have e : cur = lfRow vs d := by
    rw [h2] at hc
    injection hc with hc
    injection hc with hc
    exact hc.symm
  subst e
  rw [lfRow_setPage h1 hO hq]
  refine ⟨h.ge, vs, h1, setRow_heap _ b _ _ _ _ h2, fun i hi => ⟨?_, (h3 i hi).2⟩, h4⟩
  exact (h3 i hi).1.kept (S := [b]) ((Fr.refl _ w).setRow (.inl (by simp)) _) (fun g hg => by simp only [List.mem_singleton] at hg; subst hg; exact (h3 i hi).2)
/-- A block more behind the head's others. -/
theorem LfD.append {w2 : World} (h : LfD B w b d) (hO : Lf.Shp d) {sv : Value} (hs : w.cell? ⟨b, d.head, none⟩ = some sv) (hf : Fr sv.ownBlock.toList w w2) {gg cap : Nat} {x : Int × Int} (hat : sv.ownBlock = some gg ∨ w.heap.size ≤ gg)
    (hown : Own2 w2 B 72 (.slice (some ⟨gg, 0, none⟩) ((Lf.seg d d.head).length + 1) cap) (Lf.seg d d.head ++ [x])) :
    LfD B (w2.setCell ⟨b, d.head, none⟩ (.slice (some ⟨gg, 0, none⟩) ((Lf.seg d d.head).length + 1) cap)) b ⟨d.segs.set d.head (Lf.seg d d.head ++ [x]), d.pages, d.head⟩ := by
  obtain ⟨vs, h1, h2, h3, h4⟩ := h.main
  have hnh := hO.nh
  have esv : vs.getD d.head undef = sv := by
    rw [cell_of_row w b _ _ _ _ h2, lfRow_seg h1 hnh] at hs
    injection hs
  have hlt := lt_of_heap h2
  have hb : b ∉ sv.ownBlock.toList := by
    have := (h3 _ hnh).2
    rw [esv] at this
    simpa using this
  have hgb : gg ≠ b := by
    rcases hat with e | e
    · rintro rfl; rw [e] at hb; simp at hb
    · omega
  have ho : (Value.slice (some ⟨gg, 0, none⟩) ((Lf.seg d d.head).length + 1) cap).ownBlock = some gg := rfl
  have hset : ∀ i, (vs.set d.head (.slice (some ⟨gg, 0, none⟩) ((Lf.seg d d.head).length + 1) cap)).getD i undef = if d.head = i then (.slice (some ⟨gg, 0, none⟩) ((Lf.seg d d.head).length + 1) cap) else vs.getD i undef := fun i => by
    simp only [List.getD_eq_getElem?_getD, List.getElem?_set]
    split
    · rename_i e; subst e; simp [h1, hnh]
    · rfl
  have hother : ∀ i, i < 6 → d.head ≠ i → ∀ g, (vs.getD i undef).ownBlock = some g → g ≠ gg := fun i hi hne g hg e => by
    subst e
    rcases hat with e | e
    · rw [← esv] at e
      exact h4 i d.head hi hnh (Ne.symm hne) g hg e
    · have := World.ownsRow.lt (h3 i hi).1 g hg
      omega
  have hseg : ∀ i, Lf.seg ⟨d.segs.set d.head (Lf.seg d d.head ++ [x]), d.pages, d.head⟩ i = if d.head = i then Lf.seg d d.head ++ [x] else Lf.seg d i := fun i => Lf.seg_set d d.head i _ (by rw [hO.ns]; exact hnh) _ _
  have hF3 : ∀ v, Fr [b] w2 (w2.setCell ⟨b, d.head, none⟩ v) := fun v => (Fr.refl _ w2).setCell (.inl (by simp)) v
  refine ⟨h.ge, vs.set d.head (.slice (some ⟨gg, 0, none⟩) ((Lf.seg d d.head).length + 1) cap), by simp [h1], by rw [set_block (hf.get h2 hb), lfRow_setSeg h1 hnh], fun i hi => ?_, fun i j hi hj hij g hg => ?_⟩
  · rw [hset, hseg]
    split
    · exact ⟨Own2.kept hown (hF3 _) (fun g hg => by simp only [List.mem_singleton] at hg; subst hg; rw [ho]; simpa using hgb), by rw [ho]; simpa using hgb⟩
    · rename_i hne
      refine ⟨((h3 i hi).1.kept hf (fun g hg e => ?_)).kept (hF3 _) (fun g hg => by simp only [List.mem_singleton] at hg; subst hg; exact (h3 i hi).2), (h3 i hi).2⟩
      rw [← esv] at hg
      exact h4 i d.head hi hnh (Ne.symm hne) g e (by simpa using hg)
  · rw [hset] at hg ⊢
    split at hg
    · rename_i e
      rw [ho] at hg
      injection hg with hg
      rw [if_neg (fun e' => hij (e.symm.trans e'))]
      intro e2
      exact hother j hj (fun e' => hij (e.symm.trans e')) g e2 hg.symm
    · split
      · rename_i hne e
        rw [ho]
        intro e2
        injection e2 with e2
        exact hother i hi hne g hg e2.symm
      · exact h4 i j hi hj hij g hg
end
/-- Where the first line of down ends: the block is behind the others, and not yet known to the page. -/
def DownMid (B b tb : Nat) (d : Lf.D) (sv : Value) (p v : Int) (w1 : World) : Exit → Act → World → Prop
  | .normal, a, W => ∃ n1 gg cap w2, a = ⟨#[.pointer (some ⟨b, 0, none⟩), .agg #[.int .i64 p, .int .i64 v], undef, .pointer (some ⟨tb, 0, none⟩), .pointer (some ⟨b, 0, none⟩), .pointer (some ⟨b, 0, none⟩), .pointer (some ⟨b, 0, none⟩), .pointer (some ⟨b, 30, none⟩), .int .i64 d.head, .pointer (some ⟨b, 0, none⟩), .pointer (some ⟨b, 0, none⟩), .pointer (some ⟨b, 0, none⟩), .pointer (some ⟨b, 30, none⟩), .int .i64 d.head, .pointer (some ⟨b, 0, none⟩), .pointer (some ⟨b, 0, none⟩), .pointer (some ⟨b, d.head, none⟩), sv, .agg #[.int .i64 p, .int .i64 v], .slice (some ⟨n1, 0, none⟩) 1 1, .slice (some ⟨gg, 0, none⟩) ((Lf.seg d d.head).length + 1) cap, .pointer (some ⟨b, 0, none⟩), .pointer (some ⟨b, 0, none⟩), .pointer (some ⟨b, d.head, none⟩), undef, undef, undef, undef, undef, undef, undef, undef, undef, undef, undef, undef, undef, undef, undef, undef, undef, undef, undef, undef, undef, undef], []⟩ ∧
    W = w2.setCell ⟨b, d.head, none⟩ (.slice (some ⟨gg, 0, none⟩) ((Lf.seg d d.head).length + 1) cap) ∧ w2.ownsRow B 72 2 (.slice (some ⟨gg, 0, none⟩) ((Lf.seg d d.head).length + 1) cap) ((Lf.seg d d.head).length + 1) (prs (Lf.seg d d.head) ++ [.int .i64 p, .int .i64 v]) ∧
    Fr sv.ownBlock.toList w1 w2 ∧ (sv.ownBlock = some gg ∨ gg = w1.heap.size + 1)
  | _, _, _ => False
set_option maxRecDepth 100000 in
set_option maxHeartbeats 4000000 in
theorem lf_down (w : World) (B b : Nat) (d : Lf.D) (p v : Int) (hD : LfD B w b d) (hO : Lf.Shp d) (hB : B ≤ w.heap.size) (hr : (Lf.seg d d.head).length < 4) (hp : 0 ≤ p ∧ p ≤ 7) :
    Calls Tryd.prog 30 #[.pointer (some ⟨b, 0, none⟩), .agg #[.int .i64 p, .int .i64 v]] w fun e w' => e = .returned (.tuple #[]) ∧ LfD B w' b (Lf.down d (p, v)) ∧ Below B w w' ∧ w.heap.size ≤ w'.heap.size ∧ Keeps b w w' := by
  have hnh := hO.nh
  have hh0 : (0 : Int) ≤ d.head := by omega
  have hh1 : (d.head : Int) < 6 := by omega
  have hlt := hD.lt
  have hX : ∃ sv, w.cell? ⟨b, d.head, none⟩ = some sv ∧ Own2 w B 72 sv (Lf.seg d d.head) ∧ sv.ownBlock ≠ some b := by
    obtain ⟨vs, h1, h2, h3, h4⟩ := hD.main
    exact ⟨_, by rw [cell_of_row w b _ _ _ _ h2, lfRow_seg h1 hnh], (h3 _ hnh).1, (h3 _ hnh).2⟩
  obtain ⟨sv, hs, hown, hne⟩ := hX
  have HT := Lib.hid hD
  have HSV := Lib.hid hs
  have HOW := Lib.hid (World.ownsRow.lt hown)
  have hc := hD.head hO
  go_enter Tryd.func30, Tryd.ntmps30
  go_wp2
  have hA : Hid (Fr [] w (w.alloc (.cells #[.int .i64 p, .int .i64 v] 72))) := (Fr.refl _ _).alloc _
  have hT0 : (w.alloc (.cells #[.int .i64 p, .int .i64 v] 72)).heap[w.heap.size]? = some (.cells #[.int .i64 p, .int .i64 v] 72 (0, 0)) := heap_alloc_new w _
  have hsz : w.heap.size < (w.alloc (.cells #[.int .i64 p, .int .i64 v] 72)).heap.size := by simp
  have HO := Lib.hid hO
  have HT0 := Lib.hid hT0
  clear hT0 hD hO
  have htb : sv.ownBlock ≠ some w.heap.size := fun e => by have := World.ownsRow.lt hown _ e; omega
  have hB0 := hB
  have hbt := hlt
  revert htb hA hsz HT0 hB0 hbt
  generalize (w.alloc (.cells #[.int .i64 p, .int .i64 v] 72)) = w1
  generalize w.heap.size = tb
  intro hA hsz HT0 htb hB0 hbt
  have HT1 := Lib.hid (HT.out.keep hA.out)
  have hc1 := hA.out.cell hc (by simp)
  have hs1 := hA.out.cell hs (by simp)
  have hf1 := HT1.out.free d.head
  have hv0 : w1.cell? ⟨tb, 0, none⟩ = some (.int .i64 p) := by rw [cell_of_row w1 tb 0 _ _ _ HT0.out]; rfl
  have hv1 : w1.cell? ⟨tb, 1, none⟩ = some (.int .i64 v) := by rw [cell_of_row w1 tb 1 _ _ _ HT0.out]; rfl
  have HOwn := Lib.hid (Own2.kept hown hA.out (by simp))
  have HK : Hid (∀ W, Fr sv.ownBlock.toList w1 W → W.cell? ⟨b, 30, none⟩ = some (.int .i64 d.head) ∧ W.cell? ⟨b, d.head, none⟩ = some sv ∧ W.frozen? ⟨b, d.head, none⟩ = false ∧ W.cell? ⟨tb, 0, none⟩ = some (.int .i64 p) ∧ W.cell? ⟨tb, 1, none⟩ = some (.int .i64 v)) := by
    intro W hW
    have hb : b ∉ sv.ownBlock.toList := by simpa using hne
    have ht : tb ∉ sv.ownBlock.toList := by simpa using htb
    refine ⟨hW.cell hc1 hb, hW.cell hs1 hb, ?_, hW.cell hv0 ht, hW.cell hv1 ht⟩
    obtain ⟨vs, h1, h2, _⟩ := HT1.out.main
    exact free_block (hW.get h2 hb) _ none
  clear hc hs hown
  obtain ⟨i0, hi0, hz0, hz1, hz2⟩ := info_parts Tryd.info_blk
  have hn63 : (Lf.seg d d.head).length + 1 ≤ maxLen := by unfold maxLen; omega
  have hB1 : B ≤ w1.heap.size := by omega
  have q1 := cell?_alloc_old (.cells #[.int .i64 p, .int .i64 v] 72) hc1
  have q2 := cell?_alloc_old (.cells #[.int .i64 p, .int .i64 v] 72) hs1
  refine Code.wp_mono (Q := DownMid B b tb d sv p v w1) ?_ ?_
  rotate_left
  · go_region_law ((refine step_append_lies _ (by rfl) _ _ _ (by rfl) B 72 i0 _ 2 16 Tryd.underlying61 hi0 hz0 hz1 hz2 rfl (by omega) sv (Lf.seg d d.head).length (prs (Lf.seg d d.head)) (by rfl) ((World.ownsRow.alloc HOwn.out _).drew) ⟨w1.heap.size, 0, none⟩ 1 1 [.int .i64 p, .int .i64 v] (by rfl) (by rfl) (World.news_of_block (cs := #[.int .i64 p, .int .i64 v]) (t := 72) (fr := (0, 0)) (heap_alloc_new w1 _)) (by simp [Value.oneCell']) (by omega) hn63 (by omega) (Nat.le_trans hB1 (by simp)) (w1.heap.size + 1) (by simp) ?_; intro gg cap w2 hown2 hgrow hat hlt2; have hF2 : Fr sv.ownBlock.toList w1 w2 := Fr.grown (((Fr.refl _ w1).alloc _).drew) hgrow (fun g hg => .inl (by simp [hg])); have k1 := (HK.out _ hF2).1; have k2 := (HK.out _ hF2).2.1; have k3 := (HK.out _ hF2).2.2.1))
    all_goals exact ⟨_, _, _, w2, rfl, rfl, hown2, hF2, hat⟩
  intro e a W hM
  rcases e with _ | _ | _ | _ | _ | _
  rotate_left
  · exact hM.elim
  · exact hM.elim
  · exact hM.elim
  · exact hM.elim
  · exact hM.elim
  obtain ⟨n1, gg, cap, w2, rfl, rfl, hown2, hF2, hat⟩ := hM
  dsimp only
  have HD1 : Hid (LfD B (w2.setCell ⟨b, d.head, none⟩ (.slice (some ⟨gg, 0, none⟩) ((Lf.seg d d.head).length + 1) cap)) b ⟨d.segs.set d.head (Lf.seg d d.head ++ [(p, v)]), d.pages, d.head⟩) :=
    LfD.append HT1.out HO.out hs1 hF2 (hat.imp_right (fun e => by omega)) (by unfold Own2; rw [prs_append, List.length_append]; exact hown2)
  have hF3 : Hid (Fr (b :: sv.ownBlock.toList) w1 (w2.setCell ⟨b, d.head, none⟩ (.slice (some ⟨gg, 0, none⟩) ((Lf.seg d d.head).length + 1) cap))) := (hF2.mono (fun x hx => .inl (List.mem_cons_of_mem _ hx))).setCell (.inl (by simp)) _
  have HFT : Hid (∀ k, Foot (w2.setCell ⟨b, d.head, none⟩ (.slice (some ⟨gg, 0, none⟩) ((Lf.seg d d.head).length + 1) cap)) b k → Foot w b k ∨ w.heap.size ≤ k) := by
    rintro k (rfl | ⟨i, u, hi, hu, hk⟩)
    · exact .inl (.inl rfl)
    · obtain ⟨vs, h1, h2, _⟩ := HT.out.main
      have hb : b ∉ sv.ownBlock.toList := by simpa using hne
      have h2' := hF2.get (hA.out.get h2 (by simp)) hb
      have h3 := set_block (i := d.head) h2' (.slice (some ⟨gg, 0, none⟩) ((Lf.seg d d.head).length + 1) cap)
      rw [cell_of_row _ b i _ _ _ h3, Array.getElem?_setIfInBounds] at hu
      split at hu
      · split at hu
        · injection hu with hu
          subst hu
          injection hk with hk
          rcases hat with e | e
          · exact .inl (.inr ⟨d.head, sv, hnh, HSV.out, by rw [e, ← hk]⟩)
          · have := hA.out.size
            exact .inr (by show w.heap.size ≤ k; have hk' : gg = k := hk; omega)
        · cases hu
      · exact .inl (.inr ⟨i, u, hi, by rw [cell_of_row w b i _ _ _ h2]; exact hu, hk⟩)
  clear hown2 hF2 hat
  revert HD1 hF3 HFT
  generalize (w2.setCell ⟨b, d.head, none⟩ (.slice (some ⟨gg, 0, none⟩) ((Lf.seg d d.head).length + 1) cap)) = w3
  intro HD1 hF3 HFT
  obtain ⟨q, rfl⟩ : ∃ q : Nat, p = (q : Int) := ⟨p.toNat, by omega⟩
  have hq8 : q < 8 := by omega
  have hO1 : ∃ vs : List Value, vs.length = 6 ∧ w3.heap[b]? = some (.cells (lfRow vs ⟨d.segs.set d.head (Lf.seg d d.head ++ [((q : Int), v)]), d.pages, d.head⟩) 67 (0, 0)) := by
    obtain ⟨vs, h1, h2, _⟩ := HD1.out.main
    exact ⟨vs, h1, h2⟩
  obtain ⟨vs, hv6, hblk⟩ := hO1
  have htb' : tb ∉ b :: sv.ownBlock.toList := by
    simp only [List.mem_cons, not_or]
    exact ⟨by omega, by simpa using htb⟩
  have hv0' := hF3.out.cell hv0 htb'
  have hh3 : w3.cell? ⟨b, 30, none⟩ = some (.int .i64 d.head) := by rw [cell_of_row w3 b 30 _ _ _ hblk]; exact lfRow_head (d := ⟨_, _, _⟩) hv6 HO.out.np
  have hs3 : ∃ A c, w3.cell? ⟨b, d.head, none⟩ = some (.slice A ((Lf.seg d d.head).length + 1) c) := by
    obtain ⟨A, g, c, h1, _⟩ := HD1.out.segv hnh
    rw [Lf.seg_set d d.head d.head _ (by rw [HO.out.ns]; exact hnh), if_pos rfl, List.length_append] at h1
    exact ⟨A, c, h1⟩
  obtain ⟨A3, c3, hs3⟩ := hs3
  have HBK := Lib.hid hblk
  have hq0' : (0 : Int) ≤ q := by omega
  have hq8' : (q : Int) < 8 := by omega
  clear hblk hv0 hv1 hc1 hs1 hf1
  go_wp2
  have hsz31 : (lfRow vs ⟨d.segs.set d.head (Lf.seg d d.head ++ [((q : Int), v)]), d.pages, d.head⟩).size = 31 := lfRow_size (d := ⟨_, _, _⟩) hv6 HO.out.np
  have HF := Lib.hid (LfD.setPage (w := w3.drew) (HD1.out.keep ((Fr.refl [] w3).drew)) HO.out.np hq8 ((d.head : Int), ((Lf.seg d d.head).length : Int), true) HBK.out)
  have HG : Hid (Fr (b :: sv.ownBlock.toList) w w3.drew) := ((hA.out.nil).trans hF3.out).drew
  have HOG := Lib.hid (World.ownsRow.lt HOwn.out)
  have hw : IntKind.i64.wrap ((Lf.seg d d.head).length : Int) = ((Lf.seg d d.head).length : Int) := by rw [IntKind.wrap_i64]; omega
  go_still_tail 22, (by kernel_rfl)
  refine wpList_store_part rfl 64 _ _ rfl b (6 + q * 3) (spotCells ((d.head : Int), ((Lf.seg d d.head).length : Int), true)).toArray rfl rfl 67 (lfRow vs ⟨d.segs.set d.head (Lf.seg d d.head ++ [((q : Int), v)]), d.pages, d.head⟩) HBK.out (by kernel_rfl) (by rw [hsz31]; show 6 + q * 3 + 3 ≤ 31; omega) (by simp [spotCells, Value.oneCell']) _ rfl ?_
  go_wp2
  go_returns
  have hFr := HG.out.setRow (g := b) (.inl (by simp)) ((lfRow vs ⟨d.segs.set d.head (Lf.seg d d.head ++ [((q : Int), v)]), d.pages, d.head⟩).toList.take (6 + q * 3) ++ (spotCells ((d.head : Int), ((Lf.seg d d.head).length : Int), true)) ++ (lfRow vs ⟨d.segs.set d.head (Lf.seg d d.head ++ [((q : Int), v)]), d.pages, d.head⟩).toList.drop (6 + q * 3 + 3)).toArray
  have hF := HF.out
  rw [List.append_assoc] at hF hFr
  have hE := lfRow_setPage (d := ⟨d.segs.set d.head (Lf.seg d d.head ++ [((q : Int), v)]), d.pages, d.head⟩) hv6 HO.out.np hq8 ((d.head : Int), ((Lf.seg d d.head).length : Int), true)
  rw [List.append_assoc] at hE
  refine ⟨rfl, hF, hFr.toBelow hB (fun x hx => ?_), hFr.size, fun k hk hn => hFr.block k hk (fun hx => ?_), fun k hk => HFT.out k ?_⟩
  rotate_left
  · rcases List.mem_cons.1 hx with rfl | hx
    · exact hn (.inl rfl)
    · exact hn (.inr ⟨d.head, sv, hnh, HSV.out, by simpa using hx⟩)
  · rcases hk with rfl | ⟨i, u, hi, hu, hk⟩
    · exact .inl rfl
    · refine .inr ⟨i, u, hi, ?_, hk⟩
      have hR : (w3.drew.setRow b (lfRow vs ⟨d.segs.set d.head (Lf.seg d d.head ++ [((q : Int), v)]), d.pages.set q ((d.head : Int), ((Lf.seg d d.head).length : Int), true), d.head⟩)).heap[b]? = some (.cells (lfRow vs ⟨d.segs.set d.head (Lf.seg d d.head ++ [((q : Int), v)]), d.pages.set q ((d.head : Int), ((Lf.seg d d.head).length : Int), true), d.head⟩) 67 (0, 0)) := setRow_heap w3.drew b _ _ _ _ HBK.out
      have hu' : ((w3.drew).setRow b (lfRow vs ⟨d.segs.set d.head (Lf.seg d d.head ++ [((q : Int), v)]), d.pages.set q ((d.head : Int), ((Lf.seg d d.head).length : Int), true), d.head⟩)).cell? ⟨b, i, none⟩ = some u := by rw [← hE]; exact hu
      rw [cell_of_row _ b i _ _ _ hR, lfRow_seg hv6 hi] at hu'
      rw [cell_of_row _ b i _ _ _ HBK.out, lfRow_seg hv6 hi]
      exact hu'
  rcases List.mem_cons.1 hx with rfl | hx
  · exact HT.out.ge
  · exact (HOG.out x (by simpa using hx)).1
end Go.Proofs.YtbedfffmicbgmaaDoor
