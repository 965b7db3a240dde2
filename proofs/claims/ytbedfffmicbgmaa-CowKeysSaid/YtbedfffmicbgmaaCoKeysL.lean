/- The walk of CowKeys: whatever came in, the answer is true. -/
import Derived.Test.YtbedfffmicbgmaaCoShared
import Derived.Test.YtbedfffmicbgmaaCHas
import Derived.Test.YtbedfffmicbgmaaCSet
import Derived.Test.YtbedfffmicbgmaaCRise
namespace Go.Proofs.Ytbedfffmicbgmaa
open Go.RowKit

theorem Own.keepPush {w w' : World} {u v : Value} {g : Nat} {xs ys : List Int} {B n : Nat} (hv : Own w B 3 v xs) (hs : Sl w u g ys) (hg : w.grownBy w' v.ownBlock) (hn : n ≤ g ∨ ys = []) (hb : ∀ x, v.ownBlock = some x → x < n) : Sl w' u g ys := by
  rcases hn with hn | rfl
  · refine hs.fr (fr_grown hg) (fun hx => ?_)
    cases ho : v.ownBlock with
    | none => rw [ho] at hx; simp at hx
    | some b => rw [ho] at hx; simp at hx; have := hb b ho; omega
  · rcases hs with hs | ⟨o, c, rfl, h1, h2, h3⟩
    · exact .inl hs
    · exact .inl ⟨rfl, _, _, rfl⟩
theorem Sl.lt_size {w : World} {v : Value} {g : Nat} {xs : List Int} (h : Sl w v g xs) : g < w.heap.size ∨ xs = [] := by
  by_cases h0 : 0 < xs.length
  · obtain ⟨A, o, c, -, -, -, hc⟩ := h.form
    exact .inl (block_lt_of_cell (hc 0 h0))
  · exact .inr (List.eq_nil_of_length_eq_zero (by omega))
theorem Own.deeper {w : World} {B C e : Nat} {v : Value} {xs : List Int} (h : Own w B e v xs) (hB : C ≤ B) : Own w C e v xs := by
  obtain ⟨h1, h2⟩ := h
  refine ⟨h1, h2.imp_right ?_⟩
  rintro ⟨g, cap, cur, rfl, hb, r⟩
  exact ⟨g, cap, cur, rfl, Nat.le_trans hB hb, r⟩
theorem co_rises {T : Ct} (h : Co.Up T) (j : Nat) (hj : j + 1 < (Co.keys T).length) : nth (Co.keys T) j < nth (Co.keys T) (j + 1) := by
  have := List.pairwise_iff_getElem.1 h j (j + 1) (by omega) hj (by omega)
  simpa [nth, List.getD, hj, show j < (Co.keys T).length by omega] using this
set_option maxRecDepth 100000 in
set_option maxHeartbeats 4000000 in
theorem cowKeys_walk (w : World) (v : Value) (ls : List (List Int)) (ver key val : Int) (hR : Rw w.heap.size w v ls) :
    Calls Try.prog 3 #[v, .int .i64 ver, .int .i64 key, .int .i64 val] w (OkT w) := by
  have HR := Lib.hid hR
  clear hR
  go_enter Try.func3, Try.ntmps3
  go_wp2_with fail
  (refine useC (co_fact w) ?_); rintro e w0 ⟨rfl, hF0⟩
  have HF0 := Lib.hid hF0
  clear hF0
  go_wp2_with fail
  (refine useC (co_stored w0 v ls (HR.out.mono1 HF0.out)) ?_); rintro e w1 ⟨sb, st, rfl, hl⟩
  have HL1 : Hid (CoL w0 w1 sb st) := hl
  clear hl HR
  go_wp2_with fail
  (refine useC (co_Put w0 w1 sb st ver key val HL1.out) ?_); rintro e w2 ⟨r, c, st', rfl, hl, hk, hc, hcase⟩
  have HL2 : Hid (CoL w0 w2 sb st') := hl
  clear hl
  rcases hcase with ⟨hc0, rfl, N, hN, rfl⟩ | ⟨hc0, rfl, rfl⟩
  · rw [hc0] at hc ⊢
    have hv := Co.putErr_has hc.symm
    have hup := HL1.out.s.ok.up _ (Co.tree_mem hv)
    have hup2 := Co.up_put key val _ N hup
    have hn := Co.has_new (st := st) (Co.put (Co.tree st ver) N key val)
    have ho := Co.has_old hv (Co.put (Co.tree st ver) N key val)
    have eo := Co.tree_old hv (Co.put (Co.tree st ver) N key val)
    have en := Co.tree_new st (Co.put (Co.tree st ver) N key val)
    have HOLD := Lib.hid (fun h => Co.keys_put_old hup N key val h)
    have HNEW := Lib.hid (fun h => rise_eq hup2 (Co.keys_put_new hup N key val h))
    have HUP := Lib.hid (co_rises hup2)
    have hla : (Co.keys (Co.tree st ver)).length ≤ 900 := by
      rw [Co.len_keys]
      have h1 := HL1.out.s.ok.few _ (Co.tree_mem hv)
      have h2 := HL1.out.s.ok.len.2
      omega
    have hlb : (Co.keys (Co.put (Co.tree st ver) N key val)).length ≤ 901 := by
      have := Co.nodes_put key val (Co.tree st ver) N
      rw [Co.len_keys] at *
      omega
    have HKA := co_KeysB w0 w2 sb _ ver HL2.out ho
    have HKB := Lib.hid (fun W (hW : Fr [] w2 W) => co_KeysB w0 W sb _ st.length (HL2.out.step hW) hn)
    unfold CoKeysB at HKA HKB
    rw [eo] at HKA
    rw [en] at HKB
    generalize Co.keys (Co.put (Co.tree st ver) N key val) = kb at *
    generalize Co.keys (Co.tree st ver) = ka at *
    clear hn ho eo en hv hc hc0 hk hN hup hup2
    generalize st ++ [Co.put (Co.tree st ver) N key val] = st2 at *
    have HKA := Lib.hid HKA
    rw [show errV 0 = .nilIface from rfl]
    go_wp2_with fail
    (refine useC HKA.out ?_); rintro e w3 ⟨A3, c3, g3, rfl, ho3, -, -, -, hf⟩
    have HO3 := Lib.hid ho3
    have HF3 := Lib.hid hf
    clear ho3 hf HKA
    go_wp2_with fail
    (refine useC (HKB.out w3 HF3.out) ?_); rintro e w4 ⟨A4, c4, g4, rfl, ho4, hs4, -, -, hf⟩
    have ho3 := HO3.out.kept hf (by simp)
    have hx3 : ∀ x, Value.ownBlock (.slice A3 ka.length c3) = some x → x < w3.heap.size := fun x hx => (HO3.out.ge x hx).2
    have HO4 := Lib.hid ho3
    have HX3 := Lib.hid hx3
    have HF4 := Lib.hid (HF3.out.trans hf)
    obtain ⟨g4', hg4', hs4'⟩ := ho4.sl
    have HS4 := Lib.hid hs4'
    have HG4 : Hid (w3.heap.size ≤ g4' ∨ kb = []) := hg4'.imp_left (fun h => by omega)
    clear ho3 hf ho4 hs4 hg4' hs4' hx3 HO3 HF3 HKB HL1
    obtain ⟨A4', o4, c4', eA, -, hA4, hc4⟩ := HS4.out.form
    injection eA with eA1 _ eA3
    subst eA1 eA3
    have HC4 := Lib.hid (fun W (hW : Fr [] w4 W) i (hi : i < kb.length) => hW.cell (hc4 i hi) (by simp))
    have HA4 := Lib.hid hA4
    clear hA4 hc4
    have HF5 := Lib.hid (Fr.refl [] w4)
    go_wp2_with fail
    go_loopw [17] (fun i wr => ∃ j : Nat, i = .int .i64 ((j + 1 : Nat) : Int) ∧ j ≤ 901 ∧ Hid (Fr [] w4 wr)) (fun i _ => 902 - (intOf i).toNat)
    case atStart => exact ⟨0, rfl, by omega, HF5⟩
    case round =>
      clear HF5
      obtain ⟨j, rfl, hj, hF⟩ := hrel
      by_cases hlt : j + 1 < kb.length
      · obtain rfl := HA4.out (by omega)
        have q0 := HC4.out wr hF.out j (by omega)
        have q1 := HC4.out wr hF.out (j + 1) hlt
        have hup := HUP.out j hlt
        generalize nth kb j = x0 at *
        generalize nth kb (j + 1) = x1 at *
        have n1 : ¬ x1 ≤ x0 := by omega
        obtain ⟨i, hi⟩ : ∃ i, i = j + 1 := ⟨_, rfl⟩
        rw [← hi] at q1 ⊢
        have e1 : (i : Int) - 1 = (j : Int) := by omega
        have ew : IntKind.i64.wrap (j : Int) = j := IntWalk.i64_in _ (by omega)
        have i0 : (0 : Int) ≤ j := by omega
        have i1 : (j : Int) < kb.length := by omega
        have i2 : (0 : Int) ≤ i := by omega
        have i3 : (i : Int) < kb.length := by omega
        have hj9 : j + 1 ≤ 901 := by omega
        have Hi := Lib.hid hi
        have hi902 : i ≤ 902 := by omega
        clear hi hup hlt
        go_wp2_with fail
        (refine wp_region_mixq 9 [(true, 0), (true, 1), (true, 2), (true, 3), (true, 4), (true, 5), (true, 6), (true, 7), (true, 8)] (by kernel_rfl) (by kernel_rfl) ?_; simp only [pickOps, List.map_cons, List.map_nil, List.getD_cons_zero, List.getD_cons_succ, List.drop_succ_cons, List.drop_zero]; (iterate 9 (first | (refine wpMix_take (v := ?_) (by rfl) ?_ ?_; rotate_left; (focus (intro W hW; subst hW; go_simp; (try with_reducible rfl); done)); try simp only [Act.put, List.setIfInBounds_toArray, List.set_cons_zero, List.set_cons_succ]) | (refine wpMix_leave (by rfl) ?_; try simp only [Act.put, List.setIfInBounds_toArray, List.set_cons_zero, List.set_cons_succ]))); refine wpMix_nil ?_)
        go_wp2
        go_roundw
        case rel => exact ⟨j + 1, by rw [← Hi.out]; go_num, by omega, hF.out.step (Fr.refl [] wr).drew (by simp)⟩
        case measure => have := Hi.out; (simp [intOf]; try omega)
      · have n1 : ¬ ((j + 1 : Nat) : Int) < kb.length := by omega
        generalize hi : j + 1 = i at *
        have HO5 := Lib.hid (HO4.out.kept hF.out (by simp))
        have HS5 := Lib.hid (HS4.out.fr hF.out (by simp))
        have HFr := Lib.hid (HF4.out.trans hF.out)
        have HW := Lib.hid (fun W (hW : Fr [] w2 W) => HF0.out.trans (HL2.out.fr.trans hW))
        obtain ⟨g5, hg5, hs5⟩ := HO5.out.sl
        have HSA := Lib.hid hs5
        have HHAS := Lib.hid (has_any wr _ g5 ka key hs5)
        clear hs5 hg5 HC4 HA4 HS4 HO4 HF0 HL2 hF HUP
        by_cases hin : key ∈ ka
        · have hb : hasB ka key = true := by unfold hasB; rwa [List.contains_iff_mem]
          obtain rfl := HOLD.out hin
          rw [hb] at HHAS
          clear hin hb HOLD HNEW
          have HI := Lib.hid (ints_same wr _ _ _ _ _ HS5.out HSA.out)
          go_wp2_with (first
            | (go_at_call 10; (with_reducible refine useC HHAS.out ?_); rintro e w6 ⟨rfl, rfl⟩)
            | (go_at_call 13; (with_reducible refine useC HI.out ?_); rintro e w6 ⟨rfl, hd⟩; have HF6 := Lib.hid (HFr.out.trans (hd.fr [])); clear hd))
          go_ret
          exact ⟨rfl, HW.out _ HF6.out⟩
        · have hb : hasB ka key = false := by unfold hasB; rw [Bool.eq_false_iff]; exact fun h => hin (List.contains_iff_mem.1 h)
          have hnew := HNEW.out hin
          have HN := Lib.hid hnew
          rw [hb] at HHAS
          clear hin hb HOLD HNEW hnew HSA
          have hsz := HFr.out.size
          have hl0 : ka.length < 1000000 := by omega
          go_wp2_with (first
            | (go_at_call 10; (with_reducible refine useC HHAS.out ?_); rintro e w6 ⟨rfl, rfl⟩)
            | (at_builtin; refine wpList_push_int (wr := wr) Try.intT rfl _ _ rfl w2.heap.size _ ka rfl (HO5.out.deeper (Nat.le_succ _)) rfl hl0 hsz ?_; intro v' w7 h1 h2 h3; have HO7 := Lib.hid h1; have HF7 : Hid (Fr [] w2 w7) := HFr.out.below_step h3 (Nat.le_refl _); have HS7 := Lib.hid (HO5.out.keepPush HS5.out h2 HG4.out HX3.out); clear h1 h2 h3; obtain ⟨g7, hg7, hs7⟩ := HO7.out.sl; have HSET := Lib.hid (set_any w7 v' g7 (ka ++ [key]) ka.length key hs7 (by simp) (by simp; omega)); clear hs7 hg7)
            | (go_at_call 12; (with_reducible refine useC HSET.out ?_); rintro e w8 ⟨v8, g8, rfl, hg8, hs8, hf8⟩; rw [show (ka ++ [key]).set ka.length key = ka ++ [key] by simp] at hs8; have HR8 := Lib.hid (rising_any w8 v8 g8 (ka ++ [key]) hs8 hs8.lt_size (by simp; omega)); have HF8 := Lib.hid hf8; clear hs8 hg8 hf8)
            | (go_at_call 11; (with_reducible refine useC HR8.out ?_); rintro e w9 ⟨v9, g9, rfl, hg9, hs9, hf9⟩; rw [HN.out] at hs9; have HF89 := Lib.hid (HF8.out.trans hf9); have HI := Lib.hid (ints_same w9 _ _ _ _ _ (HS7.out.fr HF89.out (by simp)) hs9); clear hs9 hg9 hf9)
            | (go_at_call 13; (with_reducible refine useC HI.out ?_); rintro e w10 ⟨rfl, hd⟩; have HF10 := Lib.hid (HF7.out.trans (HF89.out.trans (hd.fr []))); clear hd))
          go_ret
          exact ⟨rfl, HW.out _ HF10.out⟩
  · rw [errV_no hc0]
    clear hk hc hc0
    go_wp2
    go_ret
    exact ⟨rfl, HF0.out.trans HL2.out.fr⟩
end Go.Proofs.Ytbedfffmicbgmaa
