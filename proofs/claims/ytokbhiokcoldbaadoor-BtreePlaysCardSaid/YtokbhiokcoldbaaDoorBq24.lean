/- Keys of package btree: a closure that calls itself through its variable. -/
import Derived.Laws.EntriesVeiled
import Derived.Test.YtokbhiokcoldbaaDoorBq04
import Derived.Test.YtokbhiokcoldbaaDoorBq14
namespace Go.Proofs.YtokbhiokcoldbaaDoor
open Go.RowKit

namespace Bt
/-- What stands ahead of the i-th kid. -/
def weaveTo : List Int → List (List Int) → Nat → List Int
  | k :: r, ls, i + 1 => ls.headD [] ++ k :: weaveTo r ls.tail i
  | _, _, _ => []
theorem weaveTo_zero (k : List Int) (ls : List (List Int)) : weaveTo k ls 0 = [] := by cases k <;> rfl
theorem weaveTo_succ : ∀ (k : List Int) (ls : List (List Int)) (i : Nat) (h : i < k.length), weaveTo k ls (i + 1) = (weaveTo k ls i ++ ls.getD i []) ++ [k[i]]
  | k :: r, ls, 0, _ => by cases ls <;> simp [weaveTo, weaveTo_zero]
  | k :: r, ls, i + 1, h => by
    have ih := weaveTo_succ r ls.tail i (by simpa using h)
    show ls.headD [] ++ k :: weaveTo r ls.tail (i + 1) = _
    rw [ih]
    cases ls <;> simp [weaveTo]
theorem weaveTo_all : ∀ (k : List Int) (ls : List (List Int)), weaveTo k ls k.length ++ ls.getD k.length [] = weave k ls
  | [], ls => by cases ls <;> simp [weaveTo, weave]
  | k :: r, ls => by
    have ih := weaveTo_all r ls.tail
    show (ls.headD [] ++ k :: weaveTo r ls.tail r.length) ++ ls.getD (r.length + 1) [] = ls.headD [] ++ k :: weave r ls.tail
    rw [← ih]
    cases ls <;> simp
theorem weaveTo_len (k : List Int) (ls : List (List Int)) (i : Nat) (h : i ≤ k.length) : (weaveTo k ls i ++ ls.getD i []).length ≤ (weave k ls).length := by
  by_cases hi : i = k.length
  · subst hi; rw [weaveTo_all]; exact Nat.le_refl _
  · have hs : ∀ j, i + j < k.length → (weaveTo k ls i ++ ls.getD i []).length ≤ (weaveTo k ls (i + j + 1)).length := fun j => by
      induction j with
      | zero =>
        intro hj
        have h1 := congrArg List.length (weaveTo_succ k ls i hj)
        simp only [List.length_append, List.length_singleton] at h1 ⊢
        rw [Nat.add_zero]
        omega
      | succ j ih =>
        intro hj
        have := ih (by omega)
        have h1 := congrArg List.length (weaveTo_succ k ls (i + (j + 1)) hj)
        rw [show i + j + 1 = i + (j + 1) from by omega] at this
        simp only [List.length_append, List.length_singleton] at h1 this ⊢
        omega
    have h1 := hs (k.length - i - 1) (by omega)
    rw [show i + (k.length - i - 1) + 1 = k.length from by omega] at h1
    have h2 := congrArg List.length (weaveTo_all k ls)
    simp only [List.length_append] at h1 h2 ⊢
    omega
end Bt
/-- The two captured variables: the list so far, and the closure itself. -/
structure BtKJ (w0 : World) (vb fb : Nat) (l : List Int) (w : World) : Prop where
  out : ∃ A c, w.heap[vb]? = some (.cells #[.slice A l.length c] 25 (0, 0)) ∧ Own w w0.heap.size 3 (.slice A l.length c) l
  fn : ∃ t, 3 ≠ t ∧ w.heap[fb]? = some (.cells #[.func (.func 67) #[] #[.pointer (some ⟨fb, 0, none⟩), .pointer (some ⟨vb, 0, none⟩)]] t (0, 0))
  fr : Fr [] w0 w
  vge : w0.heap.size ≤ vb
  ne : fb ≠ vb
theorem BtKJ.keep {w0 w w' : World} {vb fb : Nat} {l : List Int} (h : BtKJ w0 vb fb l w) (hf : Fr [] w w') : BtKJ w0 vb fb l w' := by
  obtain ⟨⟨A, c, h1, h2⟩, ⟨t, h3, h4⟩, h5, h6, h7⟩ := h
  exact ⟨⟨A, c, hf.get h1 (by simp), h2.kept hf (by simp)⟩, ⟨t, h3, hf.get h4 (by simp)⟩, h5.trans hf, h6, h7⟩
theorem BtKJ.push {w0 w w2 : World} {vb fb : Nat} {l : List Int} {x : Int} {A : Option Addr} {c : Nat} {v' : Value} (h : BtKJ w0 vb fb l w) (hb : w.heap[vb]? = some (.cells #[.slice A l.length c] 25 (0, 0))) (ho : Own w w0.heap.size 3 (.slice A l.length c) l)
    (h1 : Own w2 w0.heap.size 3 v' (l ++ [x])) (hg : w.grownBy w2 (Value.slice A l.length c).ownBlock) : (∃ A' c', v' = .slice A' (l.length + 1) c') ∧ w2.cell? ⟨vb, 0, none⟩ = some (.slice A l.length c) ∧ w2.frozen? ⟨vb, 0, none⟩ = false ∧ BtKJ w0 vb fb (l ++ [x]) (w2.setCell ⟨vb, 0, none⟩ v') := by
  obtain ⟨-, ⟨t, h3, h4⟩, h5, h6, h7⟩ := h
  have hfg := fr_grown hg
  have hbb : w2.heap[vb]? = some (.cells #[.slice A l.length c] 25 (0, 0)) := hfg.get hb (by
    have := own_ne_block (own_inE.2 ho) hb (by decide)
    simpa using this)
  have hbf := hfg.get h4 (by
    have := own_ne_block (own_inE.2 ho) h4 h3
    simpa using this)
  have hS : Fr [vb] w2 (w2.setCell ⟨vb, 0, none⟩ v') := (Fr.refl _ _).setCell (.inl (by simp)) _
  obtain ⟨A', c', hv', -⟩ := (own_inE.2 h1).form'
  refine ⟨⟨A', c', by rw [hv', List.length_append]; rfl⟩, by rw [cell_of_row w2 vb 0 _ _ _ hbb]; rfl, free_block hbb 0 none, ⟨⟨A', c', ?_, ?_⟩, ⟨t, h3, hS.get hbf (by simpa using h7)⟩, ?_, h6, h7⟩⟩
  · rw [← hv']; exact set_block hbb _
  · rw [← hv']
    refine h1.kept hS (fun g hg => ?_)
    simp only [List.mem_singleton] at hg
    subst hg
    exact own_ne_block (own_inE.2 h1) hbb (by decide)
  · refine (h5.grown hg (fun g hg => .inr ((own_inE.2 ho).ge g hg).1)).step hS (fun y hy => .inr ?_)
    simp only [List.mem_singleton] at hy
    subst hy
    exact h6
/-- What the closure does at a node. -/
def KeysC (w0 : World) (vb fb b : Nat) (all : List Int) : Prop := ∀ (pre : List Int) (w : World), BtKJ w0 vb fb pre w → pre.length + all.length ≤ 60 →
  Calls Tryd.prog 67 #[.pointer (some ⟨b, 0, none⟩), .pointer (some ⟨fb, 0, none⟩), .pointer (some ⟨vb, 0, none⟩)] w fun e w' => e = .returned (.tuple #[]) ∧ BtKJ w0 vb fb (pre ++ all) w'
set_option maxRecDepth 100000 in
set_option maxHeartbeats 4000000 in
theorem keys_leaf (w0 : World) (vb fb b : Nat) (t : List Int) (vk : Value) (hb : w0.heap[b]? = some (.cells #[vk, .slice none 0 0] 102 (0, 0))) (hk : OwnR inE w0 0 3 vk t) : KeysC w0 vb fb b t := fun pre w hJ hlen => by
  obtain ⟨c1, c2, -⟩ := nd_cells (hJ.fr.get hb (by simp))
  obtain ⟨gk, -, hsl⟩ := hk.sl
  obtain ⟨A0, c0, rfl, -⟩ := hk.form'
  have HQ : Hid (∀ W, Fr [] w0 W → W.cell? ⟨b, 0, none⟩ = some (.slice A0 t.length c0) ∧ W.cell? ⟨b, 1, none⟩ = some (.slice none 0 0)) := fun W hW => by
    obtain ⟨c1, c2, -⟩ := nd_cells (hW.get hb (by simp))
    exact ⟨c1, c2⟩
  have HK : Hid (∀ i (hi : i < t.length), ∃ g, A0 = some ⟨g, 0, none⟩ ∧ ∀ W, Fr [] w0 W → W.cell? ⟨g, i, none⟩ = some (.int .i64 (t[i]))) := fun i hi => by
    obtain ⟨g, c, e, -, -, hc⟩ := own_cellI hk (by omega)
    injection e with e1 _ _
    exact ⟨g, e1, fun W hW => hW.cell (hc i hi) (by simp)⟩
  have HJ := Lib.hid hJ
  have hl60 : t.length ≤ 60 := by omega
  clear hb hk hsl hJ
  go_enter Tryd.func67, Tryd.ntmps67
  go_wp2_with fail
  go_loopw [11] (fun iv wr => ∃ i : Nat, i ≤ t.length ∧ iv = .int .i64 i ∧ Hid (BtKJ w0 vb fb (pre ++ t.take i) wr)) (fun iv _ => t.length - (intOf iv).toNat)
  case atStart => exact ⟨0, Nat.zero_le _, rfl, by rw [List.take_zero, List.append_nil]; exact HJ.out⟩
  case round =>
    clear HJ c1 c2
    obtain ⟨i, hi, rfl, hI⟩ := hrel
    have hf := hI.out.fr
    obtain ⟨c1, c2⟩ := HQ.out wr hf
    by_cases hlt : i < t.length
    · have iI : (i : Int) < t.length := by omega
      have i0 : (0 : Int) ≤ i := by omega
      obtain ⟨gk, rfl, hkc⟩ := HK.out i hlt
      have kc := hkc wr hf
      obtain ⟨A, c, hb, ho⟩ := hI.out.out
      have vc : wr.cell? ⟨vb, 0, none⟩ = some (.slice A (pre ++ t.take i).length c) := by rw [cell_of_row wr vb 0 _ _ _ hb]; rfl
      have HB := Lib.hid hb
      have HO := Lib.hid ho
      have HT : Hid ((pre ++ t.take i) ++ [t[i]] = pre ++ t.take (i + 1)) := by show _ = _; rw [List.take_add_one, List.getElem?_eq_getElem hlt, List.append_assoc]; rfl
      have hz := hf.size
      have hll : (pre ++ t.take i).length < 1000000 := by rw [List.length_append, List.length_take]; omega
      generalize t[i] = x at *
      generalize pre ++ t.take i = L at *
      clear hb ho hkc hf
      go_wp2_with (at_builtin; refine wpList_push_int (wr := wr) Tryd.intT rfl _ _ rfl w0.heap.size _ L rfl HO.out rfl hll hz ?_; intro v' w2 h1 h2 _; obtain ⟨⟨A', c', rfl⟩, vc2, vf2, hJ2⟩ := hI.out.push HB.out HO.out h1 h2; have HJ2 := Lib.hid hJ2; clear h1 h2 hJ2 vc)
      go_roundw
      case rel => exact ⟨i + 1, by omega, by go_num, by rw [← HT.out]; exact HJ2.out⟩
      case measure => (simp [intOf]; try omega)
    · obtain rfl : i = t.length := by omega
      have iI : ¬ (t.length : Int) < t.length := by omega
      have HT : Hid (pre ++ t.take t.length = pre ++ t) := by show _ = _; rw [List.take_length]
      clear hlt
      go_wp2
      go_returns
      exact ⟨rfl, by rw [← HT.out]; exact hI.out⟩
set_option maxRecDepth 100000 in
set_option maxHeartbeats 4000000 in
theorem keys_node (w0 : World) (vb fb b n : Nat) (ks : List Int) (ls : List (List Int)) (vk : Value) (gc cc : Nat) (hb : w0.heap[b]? = some (.cells #[vk, .slice (some ⟨gc, 0, none⟩) n cc] 102 (0, 0))) (hk : OwnR inE w0 0 3 vk ks)
    (hn : n = ks.length + 1) (hk4 : ks.length ≤ 4) (hc : ∀ i, i < n → ∃ bi, w0.cell? ⟨gc, i, none⟩ = some (.pointer (some ⟨bi, 0, none⟩)) ∧ KeysC w0 vb fb bi (ls.getD i [])) : KeysC w0 vb fb b (Bt.weave ks ls) := fun pre w hJ hlen => by
  obtain ⟨c1, c2, -⟩ := nd_cells (hJ.fr.get hb (by simp))
  obtain ⟨A0, c0, rfl, -⟩ := hk.form'
  have HQ : Hid (∀ W, Fr [] w0 W → W.cell? ⟨b, 0, none⟩ = some (.slice A0 ks.length c0) ∧ W.cell? ⟨b, 1, none⟩ = some (.slice (some ⟨gc, 0, none⟩) n cc)) := fun W hW => by
    obtain ⟨c1, c2, -⟩ := nd_cells (hW.get hb (by simp))
    exact ⟨c1, c2⟩
  have HK : Hid (∀ i (hi : i < ks.length), ∃ g, A0 = some ⟨g, 0, none⟩ ∧ ∀ W, Fr [] w0 W → W.cell? ⟨g, i, none⟩ = some (.int .i64 (ks[i]))) := fun i hi => by
    obtain ⟨g, c, e, -, -, hc⟩ := own_cellI hk (by omega)
    injection e with e1 _ _
    exact ⟨g, e1, fun W hW => hW.cell (hc i hi) (by simp)⟩
  have HJ := Lib.hid hJ
  have HLN := Lib.hid (fun i hi => Bt.weaveTo_len ks ls i hi)
  have HWA := Lib.hid (Bt.weaveTo_all ks ls)
  have HWS := Lib.hid (fun i hi => Bt.weaveTo_succ ks ls i hi)
  have HC := Lib.hid hc
  generalize Bt.weave ks ls = R at *
  have hR60 : R.length + pre.length ≤ 60 := by omega
  have hk60 : Hid (n = ks.length + 1) := hn
  clear hb hk hJ hc hlen hn
  go_enter Tryd.func67, Tryd.ntmps67
  go_wp2_with fail
  go_loopw [11] (fun iv wr => ∃ i : Nat, i ≤ ks.length ∧ iv = .int .i64 i ∧ Hid (BtKJ w0 vb fb (pre ++ Bt.weaveTo ks ls i) wr)) (fun iv _ => ks.length - (intOf iv).toNat)
  case atStart => exact ⟨0, Nat.zero_le _, rfl, by rw [Bt.weaveTo_zero, List.append_nil]; exact HJ.out⟩
  case round =>
    clear HJ c1 c2
    obtain ⟨i, hi, rfl, hI⟩ := hrel
    have hf := hI.out.fr
    obtain ⟨c1, c2⟩ := HQ.out wr hf
    obtain ⟨tf, -, hfb⟩ := hI.out.fn
    have fc : wr.cell? ⟨fb, 0, none⟩ = some (.func (.func 67) #[] #[.pointer (some ⟨fb, 0, none⟩), .pointer (some ⟨vb, 0, none⟩)]) := by rw [cell_of_row wr fb 0 _ _ _ hfb]; rfl
    obtain ⟨bi, kc0, hKC⟩ := HC.out i (by have := hk60.out; omega)
    have qc := hf.cell kc0 (by simp)
    have hz := hf.size
    have hl1 := HLN.out i hi
    have hl2 : (pre ++ Bt.weaveTo ks ls i).length + (ls.getD i []).length ≤ 60 := by rw [List.length_append] at hl1 ⊢; omega
    have HCC := Lib.hid (hKC (pre ++ Bt.weaveTo ks ls i) wr.drew (hI.out.keep (Fr.refl [] wr).drew) hl2)
    have hiN : (i : Int) < n := by have := hk60.out; omega
    have i0 : (0 : Int) ≤ i := by omega
    by_cases hlt : i < ks.length
    · have iI : (i : Int) < ks.length := by omega
      obtain ⟨gk, rfl, hkc⟩ := HK.out i hlt
      have kc := hkc wr hf
      have HT : Hid ((pre ++ Bt.weaveTo ks ls i ++ ls.getD i []) ++ [ks[i]] = pre ++ Bt.weaveTo ks ls (i + 1)) := by show _ = _; rw [HWS.out i hlt]; simp
      have hll : (pre ++ Bt.weaveTo ks ls i ++ ls.getD i []).length < 1000000 := by rw [List.length_append]; omega
      generalize ks[i] = x at *
      generalize pre ++ Bt.weaveTo ks ls i ++ ls.getD i [] = L at *
      clear hfb kc0 hKC hkc hl1 hl2
      go_wp2_with fail
      (refine wp_region_mixq 8 [(true, 0), (true, 1), (true, 2), (true, 3), (true, 4), (true, 5), (true, 6), (true, 7)] (by kernel_rfl) (by kernel_rfl) ?_; simp only [pickOps, List.map_cons, List.map_nil, List.getD_cons_zero, List.getD_cons_succ, List.drop_succ_cons, List.drop_zero]; (iterate 8 (first | (refine wpMix_take (v := ?_) (by rfl) ?_ ?_; rotate_left; (focus (intro W hW; subst hW; go_simp; (try with_reducible rfl); done)); try simp only [Act.put, List.setIfInBounds_toArray, List.set_cons_zero, List.set_cons_succ]) | (refine wpMix_leave (by rfl) ?_; try simp only [Act.put, List.setIfInBounds_toArray, List.set_cons_zero, List.set_cons_succ]))); refine wpMix_nil ?_)
      clear kc qc c1 c2 fc
      go_wp2_with (first
        | (go_at_call 67; (with_reducible refine useC HCC.out ?_); rintro e w1 ⟨rfl, hj⟩; have HJ1 := Lib.hid hj; obtain ⟨A, c, hb, ho⟩ := hj.out; have vc : w1.cell? ⟨vb, 0, none⟩ = some (.slice A L.length c) := (by rw [cell_of_row w1 vb 0 _ _ _ hb]; rfl); have HB := Lib.hid hb; have HO := Lib.hid ho; have hz1 := hj.fr.size; clear hj hb ho)
        | (at_builtin; refine wpList_push_int (wr := w1) Tryd.intT rfl _ _ rfl w0.heap.size _ L rfl HO.out rfl hll hz1 ?_; intro v' w2 h1 h2 _; obtain ⟨⟨A', c', rfl⟩, vc2, vf2, hJ2⟩ := HJ1.out.push HB.out HO.out h1 h2; have HJ2 := Lib.hid hJ2; clear h1 h2 hJ2 vc))
      go_roundw
      case rel => exact ⟨i + 1, by omega, by go_num, by rw [← HT.out]; exact HJ2.out⟩
      case measure => (simp [intOf]; try omega)
    · obtain rfl : i = ks.length := by omega
      have iI : ¬ (ks.length : Int) < ks.length := by omega
      have HT : Hid (pre ++ Bt.weaveTo ks ls ks.length ++ ls.getD ks.length [] = pre ++ R) := by show _ = _; rw [← HWA.out]; simp
      clear hlt hfb kc0 hKC hl1 hl2
      go_wp2_with fail
      (refine wp_region_mixq 12 [(true, 0), (true, 1), (true, 2), (true, 3), (true, 4), (true, 5), (true, 6), (true, 7), (true, 8), (true, 9), (true, 10), (true, 11)] (by kernel_rfl) (by kernel_rfl) ?_; simp only [pickOps, List.map_cons, List.map_nil, List.getD_cons_zero, List.getD_cons_succ, List.drop_succ_cons, List.drop_zero]; (iterate 12 (first | (refine wpMix_take (v := ?_) (by rfl) ?_ ?_; rotate_left; (focus (intro W hW; subst hW; go_simp; (try with_reducible rfl); done)); try simp only [Act.put, List.setIfInBounds_toArray, List.set_cons_zero, List.set_cons_succ]) | (refine wpMix_leave (by rfl) ?_; try simp only [Act.put, List.setIfInBounds_toArray, List.set_cons_zero, List.set_cons_succ]))); refine wpMix_nil ?_)
      go_wp2_with (go_at_call 67; (with_reducible refine useC HCC.out ?_); rintro e w1 ⟨rfl, hj⟩; rw [HT.out] at hj; have HJ1 := Lib.hid hj; clear hj)
      go_returns
      exact ⟨rfl, HJ1.out⟩
theorem keys_each : ∀ (d lo : Nat) (t : Bt.T d), Bt.Ok d lo t → ∀ (w0 : World) (vb fb b : Nat) (F : List Nat), Nd d w0 b t F → KeysC w0 vb fb b (Bt.all d t)
  | 0, _, t, _, w0, vb, fb, b, F, h => by
    obtain ⟨vk, h1, h2, _⟩ := h
    exact keys_leaf w0 vb fb b t vk h1 h2
  | d + 1, lo, t, hok, w0, vb, fb, b, F, h => by
    obtain ⟨vk, vc, K, h1, h2, h3, h4, h5, _⟩ := h
    have hok' : Bt.Ok (d + 1) lo t := hok
    have hl : K.length = t.1.length + 1 := by rw [← hok'.2.1, h4, List.length_map]
    obtain ⟨gc, cc, rfl, q2, q3, q4⟩ := own_cellP h3 (by rw [List.length_map]; omega)
    refine keys_node w0 vb fb b _ t.1 (t.2.map (Bt.all d)) vk gc cc h1 h2 (by rw [List.length_map]; exact hl) hok'.1.2 (fun i hi => ?_)
    have hiK : i < K.length := by simpa using hi
    have hc := q4 i hi
    rw [List.getElem_map] at hc
    have he : (t.2.map (Bt.all d)).getD i [] = Bt.all d (K[i]).2.1 := by rw [h4, List.map_map]; simp [List.getD, hiK]
    rw [he]
    exact ⟨_, hc, keys_each d 2 _ (hok'.2.2 _ (by rw [h4]; exact List.mem_map.2 ⟨_, List.getElem_mem hiK, rfl⟩)) w0 vb fb _ _ (h5 _ (List.getElem_mem hiK))⟩
/-- What Keys hands back: a row in new memory. -/
def BtKs (l : List Int) (w : World) (e : Ending) (w' : World) : Prop := ∃ v, e = .returned v ∧ Own w' w.heap.size 3 v l ∧ Fr [] w w'
theorem btKJ_start (w : World) (t : TypeId) (ht : 3 ≠ t) : BtKJ w w.heap.size (w.heap.size + 1) [] ((w.alloc (.cells #[.slice none 0 0] 25)).alloc (.cells #[.func (.func 67) #[] #[.pointer (some ⟨w.heap.size + 1, 0, none⟩), .pointer (some ⟨w.heap.size, 0, none⟩)]] t)) := by
  have s1 : (w.alloc (.cells #[.slice none 0 0] 25)).heap.size = w.heap.size + 1 := by simp
  have x1 := heap_alloc_new w (.cells #[.slice none 0 0] 25)
  have g0 : Fr [] w (w.alloc (.cells #[.slice none 0 0] 25)) := (Fr.refl _ _).alloc _
  generalize w.alloc (.cells #[.slice none 0 0] 25) = wa at *
  have x2 := heap_alloc_new wa (.cells #[.func (.func 67) #[] #[.pointer (some ⟨w.heap.size + 1, 0, none⟩), .pointer (some ⟨w.heap.size, 0, none⟩)]] t)
  rw [s1] at x2
  have g1 : Fr [] wa (wa.alloc (.cells #[.func (.func 67) #[] #[.pointer (some ⟨w.heap.size + 1, 0, none⟩), .pointer (some ⟨w.heap.size, 0, none⟩)]] t)) := (Fr.refl _ _).alloc _
  exact ⟨⟨none, 0, g1.get x1 (by simp), Own.nil _ _ _⟩, ⟨t, ht, x2⟩, g0.trans g1, Nat.le_refl _, by omega⟩
theorem btKJ_box (w : World) (z : Value) (t : TypeId) : ((w.alloc (.cells #[.slice none 0 0] 25)).alloc (.cells #[z] t)).cell? ⟨w.heap.size + 1, 0, none⟩ = some z ∧ ((w.alloc (.cells #[.slice none 0 0] 25)).alloc (.cells #[z] t)).frozen? ⟨w.heap.size + 1, 0, none⟩ = false := by
  have s1 : (w.alloc (.cells #[.slice none 0 0] 25)).heap.size = w.heap.size + 1 := by simp
  have x2 := heap_alloc_new (w.alloc (.cells #[.slice none 0 0] 25)) (.cells #[z] t)
  rw [s1] at x2
  exact ⟨by rw [cell_of_row _ _ 0 _ _ _ x2]; rfl, free_block x2 0 none⟩
set_option maxRecDepth 100000 in
set_option maxHeartbeats 4000000 in
theorem bt_Keys (w : World) (P : Nat → Prop) (p : Nat) (s : Bt.Tree) (h : BtF P w p s) (hO : s.OK) :
    Calls Tryd.prog 29 #[.pointer (some ⟨p, 0, none⟩)] w (BtKs (Bt.all s.d s.t) w) := by
  obtain ⟨r, F, hS⟩ := h
  have HE := Lib.hid (keys_each s.d _ s.t hO.ok w w.heap.size (w.heap.size + 1) r F hS.nd)
  have h60 : (Bt.all s.d s.t).length ≤ 60 := by have h1 := hO.len; have h2 := hO.many; have h3 : (Bt.all s.d s.t).length = s.many := h1; omega
  have HS := Lib.hid hS
  have HST := Lib.hid (btKJ_start w)
  generalize Bt.all s.d s.t = R at *
  clear hS hO
  go_enter Tryd.func29, Tryd.ntmps29
  go_wp2_with fail
  have hcf := btKJ_box w .nilFunc 110
  obtain ⟨hc1, hc2⟩ := hcf
  have HJ0 := Lib.hid (HST.out 110 (by decide))
  go_wp2_with fail
  generalize hW : (w.alloc (.cells #[.slice none 0 0] 25)).alloc (.cells #[.func (.func 67) #[] #[.pointer (some ⟨w.heap.size + 1, 0, none⟩), .pointer (some ⟨w.heap.size, 0, none⟩)]] 110) = w1 at *
  clear hW hc1 hc2 HST
  obtain ⟨tf, -, hfb⟩ := HJ0.out.fn
  have fc : w1.cell? ⟨w.heap.size + 1, 0, none⟩ = some (.func (.func 67) #[] #[.pointer (some ⟨w.heap.size + 1, 0, none⟩), .pointer (some ⟨w.heap.size, 0, none⟩)]) := by rw [cell_of_row w1 _ 0 _ _ _ hfb]; rfl
  obtain ⟨rc, -, -⟩ := (HS.out.keep HJ0.out.fr).cells
  have HCC := Lib.hid (HE.out [] w1.drew (HJ0.out.keep (Fr.refl [] w1).drew) (by simpa using h60))
  clear hfb
  (refine wp_region_mixq 5 [(true, 0), (true, 1), (true, 2), (true, 3), (true, 4)] (by kernel_rfl) (by kernel_rfl) ?_; simp only [pickOps, List.map_cons, List.map_nil, List.getD_cons_zero, List.getD_cons_succ, List.drop_succ_cons, List.drop_zero]; (iterate 5 (first | (refine wpMix_take (v := ?_) (by rfl) ?_ ?_; rotate_left; (focus (intro W hW; subst hW; go_simp; (try with_reducible rfl); done)); try simp only [Act.put, List.setIfInBounds_toArray, List.set_cons_zero, List.set_cons_succ]) | (refine wpMix_leave (by rfl) ?_; try simp only [Act.put, List.setIfInBounds_toArray, List.set_cons_zero, List.set_cons_succ]))); refine wpMix_nil ?_)
  go_wp2_with (go_at_call 67; (with_reducible refine useC HCC.out ?_); rintro e w2 ⟨rfl, hj⟩; rw [List.nil_append] at hj; obtain ⟨A, c, hb, ho⟩ := hj.out; have vc : w2.cell? ⟨w.heap.size, 0, none⟩ = some (.slice A R.length c) := (by rw [cell_of_row w2 _ 0 _ _ _ hb]; rfl); have HO := Lib.hid ho; have HF := Lib.hid hj.fr; clear hj hb ho)
  go_ret
  exact ⟨_, rfl, HO.out, HF.out⟩
end Go.Proofs.YtokbhiokcoldbaaDoor
