/- The document's answer for package lsm: Merge. -/

import Derived.Test.YtokbhiokcoldbaaDoorLqM04
import Derived.Test.YtokbhiokcoldbaaDoorLqM09
import Derived.Test.YtokbhiokcoldbaaDoorLqM18
namespace Go.Proofs.YtokbhiokcoldbaaDoor
open Go.RowKit

/-- While entries are laid: both rows, what they say. -/
structure LqM (G : Nat → Prop) (W0 wr : World) (a b : Value) (l : List Ls.E) : Prop where
  ra : RowH G wr a (Ls.kys l)
  rb : RowH G wr b (Ls.vls l)
  fr : Fr [] W0 wr
theorem LqM.forms {G : Nat → Prop} {W0 wr : World} {a b : Value} {l : List Ls.E} (h : LqM G W0 wr a b l) : ∃ A c A' c', a = .slice A l.length c ∧ b = .slice A' l.length c' := by
  obtain ⟨A, g, o, c, e1, -⟩ := h.ra.form
  obtain ⟨A', g', o', c', e2, -⟩ := h.rb.form
  exact ⟨A, c, A', c', by simpa using e1, by simpa using e2⟩
theorem RowH.two {G G' : Nat → Prop} {w : World} {a b : Value} {l : List Ls.E} (h : RowH G w a (Ls.kys l)) (h' : RowH G' w b (Ls.vls l)) : ∃ A g o c A' g' o' c', a = .slice A l.length c ∧ b = .slice A' l.length c' ∧ ∀ i (hi : i < l.length), A = some ⟨g, o, none⟩ ∧ A' = some ⟨g', o', none⟩ ∧ ∀ W, Fr [] w W → W.cell? ⟨g, o + i, none⟩ = some (.int .i64 l[i].1) ∧ W.cell? ⟨g', o' + i, none⟩ = some (.int .i64 l[i].2) := by
  obtain ⟨A, g, o, c, e1, -, hA, hc⟩ := h.form
  obtain ⟨A', g', o', c', e2, -, hA', hc'⟩ := h'.form
  rw [List.length_map] at e1 hA hc e2 hA' hc'
  refine ⟨A, g, o, c, A', g', o', c', e1, e2, fun i hi => ⟨hA (by omega), hA' (by omega), fun W hW => ?_⟩⟩
  have h1 := hc W hW i hi
  have h2 := hc' W hW i hi
  rw [show nth (Ls.kys l) i = l[i].1 by simp [nth, Ls.kys, List.getD, hi]] at h1
  rw [show nth (Ls.vls l) i = l[i].2 by simp [nth, Ls.vls, List.getD, hi]] at h2
  exact ⟨h1, h2⟩
set_option maxRecDepth 100000 in
set_option maxHeartbeats 8000000 in
theorem lq_Merge (w : World) (G : Nat → Prop) (v : Value) (m : Ls.M) (hv : LqV G w v m) (hO : Ls.OK m) (hG : ∀ k, w.heap.size ≤ k → G k) :
    Calls Tryd.prog 44 #[v] w (LqA2 G (Ls.merge m) (Ls.mergeErr m) w) := by
  obtain ⟨gk, ck, gv, cv, rfl, h1, h2⟩ := hv.form
  have HU := Lib.hid (LqW.start (n := m.many) h1 h2 hG)
  have hrl : m.runs.length ≤ 60 := by have := hO.len; have := hO.many; omega
  have hmm := hO.many
  have htt : m.runs.flatten.length ≤ 60 := by have := hO.tot; omega
  have HO := Lib.hid hO
  clear hv h1 h2 hG hO
  by_cases h2 : m.runs.length < 2
  · have HE : Hid (Ls.mergeErr m = 5) := if_pos h2
    have HM : Hid (Ls.merge m = m) := if_pos h2
    rw [HE.out, HM.out]
    have hlt : ((m.runs.length + 1 : Nat) : Int) < 3 := by omega
    clear h2
    go_enter Tryd.func44, Tryd.ntmps44
    go_upto_region 1 with (fail)
    revert HU
    generalize (w.alloc (.cells #[.slice (some ⟨gk, 0, none⟩) (m.runs.length + 1) ck, .slice (some ⟨gv, 0, none⟩) (m.runs.length + 1) cv, .int .i64 (m.many : Int)] 73)).alloc (.cells #[.slice none 0 0, .slice none 0 0, .int .i64 0] 73) = W0
    generalize w.heap.size + 1 = X2
    generalize w.heap.size = X
    intro HU
    obtain ⟨⟨b0, b1, b2⟩, hfx⟩ := HU.out.cells
    obtain ⟨⟨o0, o1, o2⟩, hfo⟩ := HU.out.outs
    go_wp2
    exact bodyPost_ret (v := .tuple #[.agg #[.slice (some ⟨gk, 0, none⟩) (m.runs.length + 1) ck, .slice (some ⟨gv, 0, none⟩) (m.runs.length + 1) cv, .int .i64 (m.many : Int)], .int .i64 5]) (lq_results2 Tryd.results44 rfl rfl HU.out.fin.1) rfl ⟨_, rfl, HU.out.fin.2.1, HU.out.fin.2.2⟩
  · have HE : Hid (Ls.mergeErr m = 0) := if_neg h2
    obtain ⟨p, hp⟩ : ∃ p, m.runs.length = p + 2 := ⟨m.runs.length - 2, by omega⟩
    obtain ⟨t1, ht1⟩ : ∃ t, m.runs.getD (p + 1) [] = t := ⟨_, rfl⟩
    obtain ⟨t2, ht2⟩ : ∃ t, m.runs.getD p [] = t := ⟨_, rfl⟩
    have hu1 : Ls.Up t1 := by rw [← ht1]; exact HO.out.up _ (List.mem_cons_of_mem _ (Ls.getD_mem _ _ (by omega)))
    have hl12 : t1.length + t2.length ≤ 120 := by
      have a1 := Ls.getD_mem m.runs p (by omega)
      have a2 := Ls.getD_mem m.runs (p + 1) (by omega)
      rw [ht2] at a1
      rw [ht1] at a2
      have b1 := (List.sublist_flatten_of_mem a1).length_le
      have b2 := (List.sublist_flatten_of_mem a2).length_le
      omega
    have HMT := Lib.hid (And.intro (Ls.merge_tabs hp Ls.kys) (Ls.merge_tabs hp Ls.vls))
    rw [ht1, ht2] at HMT
    have HMM : Hid ((Ls.merge m).many = m.many) := by show _ = _; unfold Ls.merge; rw [if_neg h2]
    generalize Ls.merge m = mg at *
    rw [HE.out]
    obtain ⟨n, hn⟩ : ∃ n, m.runs.length + 1 = n := ⟨_, rfl⟩
    obtain ⟨i1, hi1⟩ : ∃ i, p + 2 = i := ⟨_, rfl⟩
    obtain ⟨i2, hi2⟩ : ∃ i, p + 1 = i := ⟨_, rfl⟩
    rw [hi1, hi2] at HMT
    have hk1 : (Ls.ksOf m).getD i1 [] = Ls.kys t1 := by rw [ks_at, ← hi1, ← ht1]; rfl
    have hk2 : (Ls.ksOf m).getD i2 [] = Ls.kys t2 := by rw [ks_at, ← hi2, ← ht2]; rfl
    have hv1 : (Ls.vsOf m).getD i1 [] = Ls.vls t1 := by rw [vs_at, ← hi1, ← ht1]; rfl
    have hv2 : (Ls.vsOf m).getD i2 [] = Ls.vls t2 := by rw [vs_at, ← hi2, ← ht2]; rfl
    have hkl : (Ls.ksOf m).length = n := by simp [← hn]
    have hvl : (Ls.vsOf m).length = n := by simp [← hn]
    rw [hn] at HU ⊢
    obtain ⟨sk, -, hSk⟩ := HU.out.ka.op
    obtain ⟨A1, c1, q1, r1⟩ := hSk.at (j := i1) (by omega)
    obtain ⟨A3, c3, q3, r3⟩ := hSk.at (j := i2) (by omega)
    obtain ⟨sv, -, hSv⟩ := HU.out.vb.op
    obtain ⟨A2, c2, q2, r2⟩ := hSv.at (j := i1) (by omega)
    obtain ⟨A4, c4, q4, r4⟩ := hSv.at (j := i2) (by omega)
    rw [hk1, List.length_map] at q1 r1
    rw [hk2, List.length_map] at q3 r3
    rw [hv1, List.length_map] at q2 r2
    rw [hv2, List.length_map] at q4 r4
    have HCK : Hid (i1 ≤ ck ∧ i1 ≤ cv) := by have := hSk.cap; have := hSv.cap; show _ ∧ _; omega
    have HKL := Lib.hid (And.intro hkl hvl)
    have n1 : (n : Int) - 1 = (i1 : Int) := by omega
    have n2 : (n : Int) - 2 = (i2 : Int) := by omega
    have w1 : IntKind.i64.wrap (i1 : Int) = (i1 : Int) := by rw [IntKind.wrap_i64]; omega
    have w2 : IntKind.i64.wrap (i2 : Int) = (i2 : Int) := by rw [IntKind.wrap_i64]; omega
    have z1 : (0 : Int) ≤ i1 := by omega
    have z2 : (0 : Int) ≤ i2 := by omega
    have y1 : (i1 : Int) < n := by omega
    have y2 : (i2 : Int) < n := by omega
    have n3 : ¬ (n : Int) < 3 := by omega
    have HII : Hid (i2 < i1 ∧ i1 ≤ n ∧ n ≤ 61) := by show _ ∧ _; omega
    clear hSk hSv hkl hvl hk1 hk2 hv1 hv2 ht1 ht2 h2 hp hn hi1 hi2 htt hrl
    go_enter Tryd.func44, Tryd.ntmps44
    go_upto_region 1 with (fail)
    revert HU q1 q2 q3 q4 r1 r2 r3 r4
    generalize (w.alloc (.cells #[.slice (some ⟨gk, 0, none⟩) n ck, .slice (some ⟨gv, 0, none⟩) n cv, .int .i64 (m.many : Int)] 73)).alloc (.cells #[.slice none 0 0, .slice none 0 0, .int .i64 0] 73) = W0
    generalize w.heap.size + 1 = X2
    generalize w.heap.size = X
    intro HU q1 r1 q3 r3 q2 r2 q4 r4
    obtain ⟨⟨b0, b1, b2⟩, hfx⟩ := HU.out.cells
    have HR12 : Hid (LqM (fun g => G g ∧ g ≠ X ∧ g ≠ X2) W0 W0 (.slice A1 t1.length c1) (.slice A2 t1.length c2) t1) := ⟨r1, r2, Fr.refl _ _⟩
    obtain ⟨B3, g3, o3, d3, B4, g4, o4, d4, e3, e4, hrow⟩ := r3.two r4
    injection e3 with e31 _ e33
    injection e4 with e41 _ e43
    subst e31 e33 e41 e43
    have HROW := Lib.hid hrow
    have HQ := Lib.hid (And.intro q3 q4)
    clear r1 r2 r3 r4 hrow q3 q4
    go_wp2_with fail
    clear b0 b1 b2 hfx q1 q2
    go_loopw [5, 6, 7] (fun av bv iv wr => ∃ i : Nat, i ≤ t2.length ∧ iv = .int .i64 i ∧ Hid (LqM (fun g => G g ∧ g ≠ X ∧ g ≠ X2) W0 wr av bv ((t2.take i).foldl Ls.set t1))) (fun _ _ iv _ => t2.length - (intOf iv).toNat)
    case atStart => exact ⟨0, Nat.zero_le _, rfl, HR12⟩
    case round =>
      clear HR12
      obtain ⟨i, hi, rfl, hM⟩ := hrel
      obtain ⟨C1, k1, C2, k2, rfl, rfl⟩ := hM.out.forms
      have HM := Lib.hid hM.out
      clear hM
      have HUr := Lib.hid (HU.out.step HM.out.fr)
      obtain ⟨⟨b0, b1, b2⟩, hfx⟩ := HUr.out.cells
      have hq3 := HM.out.fr.cell HQ.out.1 (by simp)
      by_cases hlt : i < t2.length
      · obtain ⟨rfl, rfl, hcells⟩ := HROW.out i hlt
        have iI : (i : Int) < t2.length := by omega
        have i0 : (0 : Int) ≤ i := by omega
        have HFT := Lib.hid (Ls.fold_take (acc := t1) hlt)
        have hal : ((t2.take i).foldl Ls.set t1).length ≤ 1000 := by have h1 := Ls.len_fold (t2.take i) t1; have h2 : (t2.take i).length ≤ t2.length := (by rw [List.length_take]; omega); omega
        have hup : Ls.Up ((t2.take i).foldl Ls.set t1) := Ls.up_fold _ _ hu1
        generalize t2[i] = x at *
        generalize (t2.take i).foldl Ls.set t1 = acc at *
        have HX : Hid (∀ W, Fr [] wr W → (W.cell? ⟨X, 0, none⟩ = some (.slice (some ⟨gk, 0, none⟩) n ck) ∧ W.cell? ⟨X, 1, none⟩ = some (.slice (some ⟨gv, 0, none⟩) n cv)) ∧ (W.cell? ⟨gk, i2, none⟩ = some (.slice (some ⟨g3, o3, none⟩) t2.length c3) ∧ W.cell? ⟨gv, i2, none⟩ = some (.slice (some ⟨g4, o4, none⟩) t2.length c4)) ∧ W.cell? ⟨g3, o3 + i, none⟩ = some (.int .i64 x.1) ∧ W.cell? ⟨g4, o4 + i, none⟩ = some (.int .i64 x.2)) := fun W hW =>
          ⟨⟨(HUr.out.step hW).cells.1.1, (HUr.out.step hW).cells.1.2.1⟩, ⟨(HM.out.fr.trans hW).cell HQ.out.1 (by simp), (HM.out.fr.trans hW).cell HQ.out.2 (by simp)⟩, hcells W (HM.out.fr.trans hW)⟩
        have hd := (Fr.refl [] wr).drew
        have HLD := Lib.hid (lq_laid wr.drew (fun g => G g ∧ g ≠ X ∧ g ≠ X2) _ _ acc x (HM.out.ra.step hd) (HM.out.rb.step hd) hup hal)
        clear hcells hal hup hd
        go_wp2_with fail
        (refine wp_region_mix (Fr [] wr ·) 25 [(true, 0), (true, 1), (true, 2), (true, 3), (true, 4), (true, 5), (true, 6), (true, 7), (true, 8), (true, 9), (true, 10), (true, 11), (true, 12), (true, 13), (true, 14), (true, 15), (true, 16), (true, 17), (true, 18), (true, 19), (false, 20), (true, 21), (true, 22), (true, 23), (false, 24)] (by kernel_rfl) (by kernel_rfl) ((Fr.refl _ _).drew) ?_; simp only [pickOps, List.map_cons, List.map_nil, List.getD_cons_zero, List.getD_cons_succ, List.drop_succ_cons, List.drop_zero])
        (iterate 20 (first | (refine wpMix_take (v := ?_) (by rfl) ?_ ?_; rotate_left; (focus (intro W hW; obtain ⟨⟨b0, b1⟩, ⟨q0, q1⟩, q2, q3⟩ := HX.out W hW; go_simp; (try with_reducible rfl); done)); try simp only [Act.put, List.setIfInBounds_toArray, List.set_cons_zero, List.set_cons_succ]) | (refine wpMix_leave (by rfl) ?_; try simp only [Act.put, List.setIfInBounds_toArray, List.set_cons_zero, List.set_cons_succ])))
        refine wpMix_walk ?_
        go_wp2_with (go_at_call 78; (with_reducible refine useC HLD.out ?_); rintro e w3 ⟨A5, c5, A6, c6, rfl, hr5, hr6, hf⟩; have HF3 := Lib.hid ((Fr.refl [] wr).drew.trans hf); have HM3 : Hid (LqM (fun g => G g ∧ g ≠ X ∧ g ≠ X2) W0 w3 (.slice A5 (Ls.set acc x).length c5) (.slice A6 (Ls.set acc x).length c6) (Ls.set acc x)) := ⟨hr5.mono (fun g _ hg => (HUr.out.step (Fr.refl [] wr).drew).new g hg), hr6.mono (fun g _ hg => (HUr.out.step (Fr.refl [] wr).drew).new g hg), HM.out.fr.trans HF3.out⟩; clear hr5 hr6 hf HLD)
        refine MixQ.mk (HF3.out) ?_
        (iterate 3 (first | (refine wpMix_take (v := ?_) (by rfl) ?_ ?_; rotate_left; (focus (intro W hW; skip; go_simp; (try with_reducible rfl); done)); try simp only [Act.put, List.setIfInBounds_toArray, List.set_cons_zero, List.set_cons_succ]) | (refine wpMix_leave (by rfl) ?_; try simp only [Act.put, List.setIfInBounds_toArray, List.set_cons_zero, List.set_cons_succ])))
        refine wpMix_walk ?_
        go_wp2
        refine MixQ.mk (HF3.out) ?_
        refine wpMix_nil ?_
        clear HX
        go_wp2
        go_roundw
        case rel => exact ⟨i + 1, by omega, by go_num, by show LqM _ _ _ _ _ _; rw [HFT.out]; exact HM3.out⟩
        case measure => (simp [intOf]; try omega)
      · obtain rfl : i = t2.length := by omega
        have iI : ¬ ((t2.length : Nat) : Int) < t2.length := by omega
        rw [List.take_length] at HM
        have hal : (t2.foldl Ls.set t1).length ≤ 1000 := by have h1 := Ls.len_fold t2 t1; omega
        have HMG : Hid (Ls.merge2 t2 t1 = Ls.keep (t2.foldl Ls.set t1)) := rfl
        rw [HMG.out] at HMT
        rw [List.take_length]
        generalize t2.foldl Ls.set t1 = acc at *
        clear HMG hlt HROW HQ
        go_wp2_with fail
        obtain ⟨WA, hWA⟩ : ∃ x, x = wr := ⟨_, rfl⟩
        subst hWA
        obtain ⟨D1, g1, o1, d1, D2, g2, o2, d2, e1, e2, hrow⟩ := HM.out.ra.two HM.out.rb
        injection e1 with e11 _ e13
        injection e2 with e21 _ e23
        subst e11 e13 e21 e23
        have HROW := Lib.hid hrow
        clear hrow b0 b1 b2 hfx hq3
        have HQ0 : Hid (Q2 WA WA (.slice none 0 0) (.slice none 0 0) (Ls.keep (acc.take 0))) := Q2.start WA
        go_loopw [8, 9, 10] (fun uv vv iv wr => ∃ i : Nat, i ≤ acc.length ∧ iv = .int .i64 i ∧ Hid (Q2 WA wr uv vv (Ls.keep (acc.take i)))) (fun _ _ iv _ => acc.length - (intOf iv).toNat)
        case atStart => exact ⟨0, Nat.zero_le _, rfl, HQ0⟩
        case round =>
          clear HQ0
          obtain ⟨i, hi, rfl, hQ⟩ := hrel
          have HQ0 := Lib.hid hQ.out
          by_cases hlt : i < acc.length
          · obtain ⟨rfl, rfl, hcells⟩ := HROW.out i hlt
            have iI : (i : Int) < acc.length := by omega
            have i0 : (0 : Int) ≤ i := by omega
            have hkt := Ls.keep_take hlt
            have hkl : (Ls.keep (acc.take i)).length ≤ 1000 := by have h1 := Ls.keep_len (acc.take i); have h2 : (acc.take i).length ≤ acc.length := (by rw [List.length_take]; omega); omega
            generalize acc[i] = x at *
            have HX := Lib.hid hcells
            obtain ⟨q0, q1⟩ := HX.out wr hQ.out.fr
            clear hcells hQ
            by_cases hx : x.2 < 0
            · have g1 : (x.2 ≥ 0) = False := eq_false (by omega)
              have g2 : decide (x.2 ≥ 0) = false := decide_eq_false (by omega)
              have HN := Lib.hid (hkt.trans (if_pos hx))
              clear hkt hx
              go_wp2
              go_roundw
              case rel => exact ⟨i + 1, by omega, by go_num, by show Q2 _ _ _ _ _; rw [HN.out]; exact HQ0.out⟩
              case measure => (simp [intOf]; try omega)
            · have g1 : (x.2 ≥ 0) = True := eq_true (by omega)
              have g2 : decide (x.2 ≥ 0) = true := decide_eq_true (by omega)
              have HN := Lib.hid (hkt.trans (if_neg hx))
              clear hkt hx
              generalize Ls.keep (acc.take i) = kp at *
              obtain ⟨E1, f1, E2, f2, rfl, rfl⟩ := HQ0.out.forms
              go_wp2_with (first
                | (have hq' := HQ0; at_builtin; refine wpList_push_int2 (wr := wr) Tryd.intT rfl _ _ rfl WA.heap.size _ _ rfl HQ0.out.own1 rfl (by simp only [Ls.kys, Ls.vls, List.length_map, List.length_append, List.length_cons, List.length_nil]; omega) (by have := HQ0.out.fr.size; omega) ?_; intro v' wa0 h1 h2 h3; have HM0 := Lib.hid (HQ0.out.push (e := x) 0 h1 h2 h3); obtain ⟨rm0, sm0⟩ := HX.out wa0 HM0.out.fr; clear h1 h2 h3 hq')
                | (have hq' := HM0; at_builtin; refine wpList_push_int2 (wr := wa0) Tryd.intT rfl _ _ rfl WA.heap.size _ _ rfl HM0.out.own2 rfl (by simp only [Ls.kys, Ls.vls, List.length_map, List.length_append, List.length_cons, List.length_nil]; omega) (by have := HM0.out.fr.size; omega) ?_; intro v' wb0 h1 h2 h3; have HQ1 := Lib.hid (HM0.out.push h1 h2 h3); clear h1 h2 h3 hq'))
              go_roundw
              case rel => exact ⟨i + 1, by omega, by go_num, by show Q2 _ _ _ _ _; rw [HN.out]; exact HQ1.out⟩
              case measure => (simp [intOf]; try omega)
          · obtain rfl : i = acc.length := by omega
            have iI : ¬ ((acc.length : Nat) : Int) < acc.length := by omega
            rw [List.take_length] at HQ0
            have hkl : (Ls.keep acc).length ≤ 1000 := by have h1 := Ls.keep_len acc; omega
            clear hQ hlt
            obtain ⟨E1, f1, E2, f2, rfl, rfl⟩ := HQ0.out.forms
            have HUA := Lib.hid (HUr.out.step HQ0.out.fr)
            obtain ⟨ga, hga, hsa⟩ := HQ0.out.own1.sl
            obtain ⟨gb, hgb, hsb⟩ := HQ0.out.own2.sl
            have HRA : Hid (RowH (fun g => G g ∧ g ≠ X ∧ g ≠ X2) wr (.slice E1 (Ls.keep acc).length f1) (Ls.kys (Ls.keep acc))) := RowH.mono ⟨ga, hga, hsa⟩ (fun g _ hg => HUr.out.new g hg)
            have HRB : Hid (RowH (fun g => G g ∧ g ≠ X ∧ g ≠ X2) wr (.slice E2 (Ls.keep acc).length f2) (Ls.vls (Ls.keep acc))) := RowH.mono ⟨gb, hgb, hsb⟩ (fun g _ hg => HUr.out.new g hg)
            clear hga hsa hgb hsb HQ0 HROW HUr HM
            generalize Ls.keep acc = kp at *
            obtain ⟨⟨b0, b1, b2⟩, hfx⟩ := HUA.out.cells
            have HT1 := Lib.hid (lq_tables wr _ _ _ _ (Ls.kys kp) i2 (HUA.out.ka.take (i := i1) (by have := HII.out; omega) (by have := HII.out; have := HKL.out; omega)) HRA.out (by have := HII.out; have := HKL.out; rw [List.length_take]; omega) (by have := HII.out; rw [List.length_take]; omega) HUA.out.new)
            have HL1 : Hid ((((Ls.ksOf m).take i1).set i2 (Ls.kys kp)).length = i1) := by have := HII.out; have := HKL.out; show _ = _; rw [List.length_set, List.length_take]; omega
            have HL2 : Hid ((((Ls.vsOf m).take i1).set i2 (Ls.vls kp)).length = i1) := by have := HII.out; have := HKL.out; show _ = _; rw [List.length_set, List.length_take]; omega
            have ck1 : (i1 : Int) ≤ ck := by have := HCK.out; omega
            have ck2 : (i1 : Int) ≤ cv := by have := HCK.out; omega
            go_wp2_with (first
              | (have h' := HT1; go_at_call 79; (with_reducible refine useC HT1.out ?_); intro e w4 hn; obtain ⟨g4, c4', he, hu, ht⟩ := HUA.out.tbl hn; rw [HL1.out] at he ht; subst he; obtain ⟨w5, hw5⟩ : ∃ z, z = w4.setCell ⟨X, 0, none⟩ (.slice (some ⟨g4, 0, none⟩) i1 c4') := ⟨_, rfl⟩; have HU4 := Lib.hid hu; have HU5 := Lib.hid (hu.setK ht); rw [← hw5] at HU5; have HW5 := Lib.hid hw5; have HF5 : Hid (Fr [] wr w4) := hn.elim (fun _ h => h.2.2); clear hw5 ht hu hn h' HT1; clear b0 b1 b2 hfx; obtain ⟨⟨b0, b1, b2⟩, hfx⟩ := HU4.out.cells)
              | (rw [← HW5.out]; clear b0 b1 b2 hfx; obtain ⟨⟨b0, b1, b2⟩, hfx⟩ := HU5.out.cells; have HT2 := Lib.hid (lq_tables w5 _ _ _ _ (Ls.vls kp) i2 (HU5.out.vb.take (i := i1) (by have := HII.out; omega) (by have := HII.out; have := HKL.out; omega)) (by rw [HW5.out]; exact (HRB.out.step HF5.out).fr (LqW.one w4 X 0 _) LqW.nX) (by have := HII.out; have := HKL.out; rw [List.length_take]; omega) (by have := HII.out; rw [List.length_take]; omega) HU5.out.new); clear HW5 HU4)
              | (have h' := HT2; go_at_call 79; (with_reducible refine useC HT2.out ?_); intro e w6 hn; obtain ⟨g6, c6, he, hu, ht⟩ := HU5.out.tbl hn; rw [HL2.out] at he ht; subst he; obtain ⟨w7, hw7⟩ : ∃ z, z = w6.setCell ⟨X, 1, none⟩ (.slice (some ⟨g6, 0, none⟩) i1 c6) := ⟨_, rfl⟩; have HU6 := Lib.hid hu; have HU7 := Lib.hid (hu.setV ht); rw [← hw7] at HU7; have HW7 := Lib.hid hw7; clear hw7 ht hu hn h' HT2; clear b0 b1 b2 hfx; obtain ⟨⟨b0, b1, b2⟩, hfx⟩ := HU6.out.cells)
              | (rw [← HW7.out]; clear b0 b1 b2 hfx; obtain ⟨⟨b0, b1, b2⟩, hfx⟩ := HU7.out.cells; obtain ⟨⟨p0, p1, p2⟩, hfo⟩ := HU7.out.outs; clear HW7 HU6))
            have HU8 : Hid (LqW G w w7 X X2 (.slice (some ⟨g4, 0, none⟩) i1 c4') (.slice (some ⟨g6, 0, none⟩) i1 c6) (Ls.ksOf mg) (Ls.vsOf mg) m.many) := by
              have := HU7.out
              rw [HMT.out.1, HMT.out.2] at this
              exact this
            rw [← HMM.out] at HU8 ⊢
            exact bodyPost_ret (v := .tuple #[.agg #[.slice (some ⟨g4, 0, none⟩) i1 c4', .slice (some ⟨g6, 0, none⟩) i1 c6, .int .i64 (mg.many : Int)], .int .i64 0]) (lq_results2 Tryd.results44 rfl rfl HU8.out.fin.1) rfl ⟨_, rfl, HU8.out.fin.2.1, HU8.out.fin.2.2⟩
end Go.Proofs.YtokbhiokcoldbaaDoor
/- Runs of package lsm. -/
namespace Go.Proofs.YtokbhiokcoldbaaDoor
open Go.RowKit

namespace Ls
/-- How many entries each run has. -/
def lens (m : M) : List Int := m.runs.map fun l => (l.length : Int)
end Ls
/-- What the rounds know of a row of integers that grows. -/
structure LsRl (w wr : World) (u : Value) (l : List Int) : Prop where
  own : Own wr w.heap.size 3 u l
  fr : Fr [] w wr
/-- The call hands back n and a row of integers. -/
def LsRn (n : Int) (xs : List Int) (w : World) (e : Ending) (w' : World) : Prop := ∃ v g, e = .returned (.tuple #[.int .i64 n, v]) ∧ (w.heap.size ≤ g ∨ xs = []) ∧ Sl w' v g xs ∧ Fr [] w w'
theorem LsS.runAt {P : Nat → Prop} {w : World} {b : Nat} {vm vr : Value} {vs : List SlV} {m : Ls.M} (h : LsS P w b vm vr vs m) {k : Nat} (hk : k < vs.length) : ∃ g c A' c', vr = .slice (some ⟨g, 0, none⟩) vs.length c ∧ w.cell? ⟨g, k, none⟩ = some (.slice A' (m.runs.getD k []).length c') ∧ OwnR entE w 0 117 (.slice A' (m.runs.getD k []).length c') (m.runs.getD k []) := by
  obtain ⟨g, c, e, _, hc⟩ := own_cells1 h.runs (by omega)
  have h1 := (h.each k hk).row
  obtain ⟨A', c', he⟩ := h1.form
  refine ⟨g, c, A', c', e, ?_, by rw [← he]; exact h1⟩
  rw [hc k hk, he]
set_option maxRecDepth 100000 in
set_option maxHeartbeats 2000000 in
theorem ls_Runs (w : World) (P : Nat → Prop) (b : Nat) (m : Ls.M) (h : LsF P w b m) (hO : Ls.OK m) :
    Calls Tryd.prog 39 #[.pointer (some ⟨b, 0, none⟩)] w (LsRn m.mem.length (Ls.lens m) w) := by
  obtain ⟨vm, vr, vs, hS⟩ := h
  obtain ⟨A, c, rfl⟩ := hS.mem.form
  obtain ⟨A2, c2, hvr⟩ := hS.runs.form
  have hvl := hS.len
  have hOl := hO.len
  have hOm := hO.many
  have HCE : Hid (∀ W, Fr [] w W → W.cell? ⟨b, 0, none⟩ = some (.slice A m.mem.length c) ∧ W.cell? ⟨b, 1, none⟩ = some (.slice A2 vs.length c2)) := fun W hW => by
    have hc := (hS.keep hW).cells
    exact ⟨hc.1, by rw [hc.2.1, hvr]⟩
  have HRUN : Hid (∀ W, Fr [] w W → ∀ k, k < vs.length → ∃ g A' c', A2 = some ⟨g, 0, none⟩ ∧ W.cell? ⟨g, k, none⟩ = some (.slice A' (m.runs.getD k []).length c')) := fun W hW k hk => by
    obtain ⟨g, c, A', c', e, h1, _⟩ := (hS.keep hW).runAt hk
    rw [hvr] at e
    injection e with e1 _ _
    exact ⟨g, A', c', e1, h1⟩
  have HLN : Hid (∀ k, k < vs.length → (Ls.lens m).take (k + 1) = (Ls.lens m).take k ++ [((m.runs.getD k []).length : Int)]) := fun k hk => by
    unfold Ls.lens
    rw [List.take_add_one, List.getElem?_eq_getElem (by rw [List.length_map]; omega)]
    simp [List.getD, List.getElem?_eq_getElem (show k < m.runs.length by omega)]
  have HLL : Hid ((Ls.lens m).length = vs.length) := by show _ = _; unfold Ls.lens; rw [List.length_map, hvl]
  have HI0 : Hid (LsRl w w (.slice none 0 0) ((Ls.lens m).take 0)) := ⟨Own.nil _ _ _, Fr.refl _ _⟩
  obtain ⟨-, q1⟩ := HCE.out w (Fr.refl _ _)
  have hv60 : vs.length ≤ 60 := by omega
  clear hS hO hvr hvl hOl hOm
  go_enter Tryd.func39, Tryd.ntmps39
  go_wp2_with fail
  go_loopw [3, 11] (fun u i wr => ∃ k : Nat, k ≤ vs.length ∧ i = .int .i64 k ∧ Hid (LsRl w wr u ((Ls.lens m).take k))) (fun _ i _ => vs.length - (intOf i).toNat)
  case atStart => exact ⟨0, Nat.zero_le _, rfl, HI0⟩
  case round =>
    clear HI0 q1
    obtain ⟨k, hk, rfl, hI⟩ := hrel
    by_cases hlt : k < vs.length
    · have kI : (k : Int) < vs.length := by omega
      have k0 : (0 : Int) ≤ k := by omega
      obtain ⟨g, A', c', rfl, q⟩ := HRUN.out wr hI.out.fr k hlt
      have HN2 := Lib.hid (HLN.out k hlt)
      generalize (m.runs.getD k []).length = L at *
      have hsz := hI.out.fr.size
      have hll : ((Ls.lens m).take k).length < 1000000 := by rw [List.length_take]; omega
      obtain ⟨A5, c5, hu⟩ := hI.out.own.form0
      subst hu
      go_wp2_with (at_builtin; refine wpList_push_int (wr := wr) Tryd.intT rfl _ _ rfl w.heap.size _ _ rfl hI.out.own rfl hll hsz ?_; intro v' w2 h1 _ h3; have HI2 : Hid (LsRl w w2 v' ((Ls.lens m).take k ++ [(L : Int)])) := ⟨h1, hI.out.fr.below_step h3 (Nat.le_refl _)⟩; clear h1 h3)
      go_roundw
      case rel => exact ⟨k + 1, by omega, by go_num, by show LsRl _ _ _ _; rw [HN2.out]; exact HI2.out⟩
      case measure => (simp [intOf]; try omega)
    · obtain rfl : k = vs.length := by omega
      have kI : ¬ (vs.length : Int) < vs.length := by omega
      obtain ⟨q0, -⟩ := HCE.out wr hI.out.fr
      have HI := Lib.hid hI.out
      rw [← HLL.out, List.take_length] at HI
      clear hI hlt
      go_wp2
      go_ret2
      obtain ⟨g, hg, hs⟩ := HI.out.own.sl
      exact ⟨_, g, rfl, hg, hs, HI.out.fr⟩
end Go.Proofs.YtokbhiokcoldbaaDoor
