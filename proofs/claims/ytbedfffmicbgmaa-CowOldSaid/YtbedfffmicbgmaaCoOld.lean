/- The walk of CowOld: whatever came in, the answer is true. -/
import Derived.Test.YtbedfffmicbgmaaCoShared
namespace Go.Proofs.Ytbedfffmicbgmaa
open Go.RowKit

theorem coGet_of {st : List Ct} {v a : Int} (h : Co.has st v) : coGet st v a = coGetT (Co.tree st v) a := if_pos h
theorem coGetT_cases (T : Ct) (a : Int) : (∃ g, Co.get T a = some g ∧ coGetT T a = .tuple #[.int .i64 g, .nilIface]) ∨ (Co.get T a = none ∧ coGetT T a = .tuple #[.int .i64 0, .iface 45 (.int .i64 5)]) := by
  unfold coGetT
  cases Co.get T a with
  | some x => exact .inl ⟨x, rfl, rfl⟩
  | none => exact .inr ⟨rfl, rfl⟩
theorem coGetT_put (T : Ct) (n : Nat) (k v a : Int) : coGetT (Co.put T n k v) a = if a = k then .tuple #[.int .i64 v, .nilIface] else coGetT T a := by
  unfold coGetT
  rw [Co.get_put]
  by_cases h : a = k
  · rw [if_pos h, if_pos h]
  · rw [if_neg h, if_neg h]
set_option maxRecDepth 100000 in
set_option maxHeartbeats 4000000 in
theorem cowOld_walk (w : World) (v : Value) (ls : List (List Int)) (ver key val ask : Int) (hR : Rw w.heap.size w v ls) :
    Calls Try.prog 5 #[v, .int .i64 ver, .int .i64 key, .int .i64 val, .int .i64 ask] w (OkT w) := by
  have HR := Lib.hid hR
  clear hR
  go_enter Try.func5, Try.ntmps5
  go_wp2_with fail
  (refine useC (co_fact w) ?_); rintro e w0 ⟨rfl, hF0⟩
  have HF0 := Lib.hid hF0
  clear hF0
  go_wp2_with fail
  (refine useC (co_stored w0 v ls (HR.out.mono1 HF0.out)) ?_); rintro e w1 ⟨sb, st, rfl, hl⟩
  have HL1 : Hid (CoL w0 w1 sb st) := hl
  clear hl HR
  go_wp2_with fail
  by_cases hv : Co.has st ver
  · (refine useC (co_KeysB w0 w1 sb st ver HL1.out hv) ?_); rintro e w2 ⟨A2, c2, g2, rfl, -, hs2, hg2, hl, -⟩
    have HL2 : Hid (CoL w0 w2 sb st) := hl
    have HS2 := Lib.hid hs2
    have HG2 := Lib.hid hg2
    have HV := Lib.hid hv
    clear hl hs2 hg2 HL1 hv
    have hcs := coGetT_cases (Co.tree st ver) ask
    go_wp2_with fail
    (refine useC (co_get w2 _ sb st ver ask HL2.out.s) ?_); rintro e w3 ⟨rfl, rfl⟩
    rw [coGet_of HV.out]
    have hx : ∃ g ev, coGetT (Co.tree st ver) ask = .tuple #[.int .i64 g, ev] ∧ (ev = .nilIface ∨ (ev = .iface 45 (.int .i64 5) ∧ g = 0)) := by
      rcases hcs with ⟨g, -, h⟩ | ⟨-, h⟩
      · exact ⟨g, _, h, .inl rfl⟩
      · exact ⟨0, _, h, .inr ⟨rfl, rfl⟩⟩
    clear hcs
    obtain ⟨g, ev, hgv, hev⟩ := hx
    rw [hgv]
    have HGV := Lib.hid hgv
    have HEV := Lib.hid hev
    clear hgv hev
    go_wp2_with fail
    (refine useC (co_Put w0 w3 sb st ver key val HL2.out) ?_); rintro e w4 ⟨r, c, st', rfl, hl, hk, hc, hcase⟩
    have HL4 : Hid (CoL w0 w4 sb st') := hl
    clear hl
    rcases hcase with ⟨hc0, rfl, N, hN, rfl⟩ | ⟨hc0, rfl, rfl⟩
    · have hs4 := HS2.out.frP hk.1 HG2.out
      have hn := Co.has_new (st := st) (Co.put (Co.tree st ver) N key val)
      have ho := Co.has_old HV.out (Co.put (Co.tree st ver) N key val)
      have eo := Co.tree_old HV.out (Co.put (Co.tree st ver) N key val)
      have en := Co.tree_new st (Co.put (Co.tree st ver) N key val)
      have go := coGet_of (a := ask) ho
      have gn := coGet_of (a := ask) hn
      rw [eo, HGV.out] at go
      rw [en, coGetT_put, HGV.out] at gn
      have HK := co_KeysB w0 w4 sb _ ver HL4.out ho
      unfold CoKeysB at HK
      rw [eo] at HK
      have HKE := Lib.hid HK
      have HS4 := Lib.hid hs4
      have HGO := Lib.hid go
      have HGN := Lib.hid gn
      rw [hc0, show errV 0 = .nilIface from rfl]
      clear hc0 hc hk hN HS2 HG2 HV HK hs4 hn ho eo en go gn HL2 HGV
      generalize st ++ [Co.put (Co.tree st ver) N key val] = st2 at *
      generalize Co.keys (Co.tree st ver) = ka at *
      go_wp2_with fail
      (refine useC HKE.out ?_); rintro e w5 ⟨A5, c5, g5, rfl, -, hs5, -, hl5, hf5⟩
      have HS5 := Lib.hid hs5
      have HS6 := Lib.hid (HS4.out.fr hf5 (by simp))
      have HL5 := Lib.hid hl5
      have HII := Lib.hid (fun W (hW : Fr [] w5 W) => ints_same W _ _ _ _ ka (HS5.out.fr hW (by simp)) (HS6.out.fr hW (by simp)))
      clear hs5 hl5 hf5 HKE HS4 HL4
      go_wp2_with fail
      (refine useC (co_get w5 _ sb _ ver ask HL5.out.s) ?_); rintro e w6 ⟨rfl, rfl⟩
      rw [HGO.out]
      have HF := Lib.hid (fun W (hW : Fr [] w6 W) => HF0.out.trans (HL5.out.fr.trans hW))
      have HGG := Lib.hid (fun W (hW : Fr [] w6 W) => co_get W _ sb _ (st.length : Int) ask (HL5.out.step hW).s)
      have e1 : (g != g) = false := by simp
      have hak : (ask == key) = true ∧ coGet st2 st.length ask = .tuple #[.int .i64 val, .nilIface] ∨ (ask == key) = false ∧ coGet st2 st.length ask = .tuple #[.int .i64 g, ev] := by
        have := HGN.out
        by_cases h : ask = key
        · exact .inl ⟨beq_iff_eq.2 h, this.trans (if_pos h)⟩
        · exact .inr ⟨beq_eq_false_iff_ne.2 h, this.trans (if_neg h)⟩
      have HAK := Lib.hid hak
      have hev := HEV.out
      clear hak HGN HGO HEV HL5 HF0 HS5 HS6
      rcases hev with rfl | ⟨rfl, hg0⟩
      all_goals
        go_wp2_with fail
        (refine wp_region_mix (Fr [] w6 ·) 18 [(true, 0), (true, 1), (true, 2), (true, 3), (true, 4), (false, 5), (true, 6), (true, 7), (true, 8), (true, 9), (true, 10), (true, 11), (true, 12), (true, 13), (true, 14), (true, 15), (true, 16), (true, 17)] (by kernel_rfl) (by kernel_rfl) ((Fr.refl _ _).drew) ?_; simp only [pickOps, List.map_cons, List.map_nil, List.getD_cons_zero, List.getD_cons_succ, List.drop_succ_cons, List.drop_zero])
        (iterate 5 (first | (refine wpMix_take (v := ?_) (by rfl) ?_ ?_; rotate_left; (focus (intro W hW; skip; go_simp; (try with_reducible rfl); done)); try simp only [Act.put, List.setIfInBounds_toArray, List.set_cons_zero, List.set_cons_succ]) | (refine wpMix_leave (by rfl) ?_; try simp only [Act.put, List.setIfInBounds_toArray, List.set_cons_zero, List.set_cons_succ])))
        refine wpMix_walk ?_
        go_wp2_with (go_at_call 13; (with_reducible refine useC (HII.out _ ((Fr.refl [] w6).drew)) ?_); rintro e w7 ⟨rfl, hd⟩; have HF7 : Hid (Fr [] w6 w7) := ((Fr.refl [] w6).drew).trans (hd.fr []); clear hd)
        refine MixQ.mk (HF7.out) ?_
        (iterate 12 (first | (refine wpMix_take (v := ?_) (by rfl) ?_ ?_; rotate_left; (focus (intro W hW; skip; go_simp; (try with_reducible rfl); done)); try simp only [Act.put, List.setIfInBounds_toArray, List.set_cons_zero, List.set_cons_succ]) | (refine wpMix_leave (by rfl) ?_; try simp only [Act.put, List.setIfInBounds_toArray, List.set_cons_zero, List.set_cons_succ])))
        refine wpMix_nil ?_
        have HG8 := Lib.hid (HGG.out _ HF7.out)
        have hans := HAK.out
        clear HAK HGG HII
        rcases hans with ⟨h1, h2⟩ | ⟨h1, h2⟩
        · rw [h2] at HG8
          clear h2
          go_wp2_with fail
          (refine useC HG8.out ?_); rintro e w8 ⟨rfl, rfl⟩
          go_wp2
          go_ret
          exact ⟨rfl, HF.out _ HF7.out⟩
        · rw [h2] at HG8
          clear h2
          go_wp2_with fail
          (refine useC HG8.out ?_); rintro e w8 ⟨rfl, rfl⟩
          go_wp2_with fail
          (refine wp_region_mixq 8 [(true, 0), (true, 1), (true, 2), (true, 3), (true, 4), (true, 5), (true, 6), (true, 7)] (by kernel_rfl) (by kernel_rfl) ?_; simp only [pickOps, List.map_cons, List.map_nil, List.getD_cons_zero, List.getD_cons_succ, List.drop_succ_cons, List.drop_zero]; (iterate 8 (first | (refine wpMix_take (v := ?_) (by rfl) ?_ ?_; rotate_left; (focus (intro W hW; subst hW; go_simp; (try with_reducible rfl); done)); try simp only [Act.put, List.setIfInBounds_toArray, List.set_cons_zero, List.set_cons_succ]) | (refine wpMix_leave (by rfl) ?_; try simp only [Act.put, List.setIfInBounds_toArray, List.set_cons_zero, List.set_cons_succ]))); refine wpMix_nil ?_)
          go_wp2
          go_ret
          exact ⟨rfl, HF.out _ (HF7.out.trans (Fr.refl [] _).drew)⟩
    · rw [errV_no hc0]
      clear hk hc hc0
      go_wp2
      go_ret
      exact ⟨rfl, HF0.out.trans HL4.out.fr⟩
  · (refine useC (co_keys_bad w1 _ sb st ver HL1.out.s hv) ?_); rintro e w2 ⟨rfl, rfl⟩
    go_wp2
    go_ret
    exact ⟨rfl, HF0.out.trans HL1.out.fr⟩
end Go.Proofs.Ytbedfffmicbgmaa
