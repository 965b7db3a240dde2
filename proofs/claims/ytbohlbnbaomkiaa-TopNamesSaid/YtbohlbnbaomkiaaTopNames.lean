/- TopNames: counted and mended it is the same. -/
import Derived.Test.YtbohlbnbaomkiaaTnPlain
import Derived.Test.YtbohlbnbaomkiaaSay
import Derived.Test.YtbohlbnbaomkiaaSoSt
import Derived.Test.YtbohlbnbaomkiaaRw2
namespace Go.Proofs.Ytbohlbnbaomkiaa
open Go.RowKit

theorem names_any (w : World) (v : Value) (g : Nat) (xs : List Int) (i : Int) (h : Sl w v g xs) (hl : xs.length ≤ 1000) :
    Calls Try.prog 22 #[v, .int .i64 i] w fun e w' => e = .returned (.int .i64 (hitsTo xs i xs.length : Int)) ∧ w = w' := by
  obtain ⟨A, o, c, rfl, hm, hA, hc⟩ := h.form
  clear h
  have HA := Lib.hid hA
  have HC := Lib.hid hc
  clear hA hc
  go_enter Try.func22, Try.ntmps22
  go_wp2
  go_loop [5, 6] (fun s k => ∃ j : Nat, j ≤ xs.length ∧ k = .int .i64 j ∧ ∃ x : Nat, s = .int .i64 x ∧ Hid (x = hitsTo xs i j)) (fun _ k => xs.length - (intOf k).toNat)
  case atStart => exact ⟨0, Nat.zero_le _, rfl, 0, rfl, rfl⟩
  case round =>
    obtain ⟨j, hj, rfl, x, rfl, hx⟩ := hrel
    by_cases hlt : j < xs.length
    · obtain rfl := HA.out (by omega)
      have hcell := HC.out j hlt
      have hxb : x ≤ 1000 := by have := hitsTo_le xs i j; have := hx.out; omega
      by_cases he : nth xs j = i
      · have hs : Hid (hitsTo xs i (j + 1) = x + 1) := by show _ = _; unfold hitsTo; rw [if_pos he, hx.out]
        have eB : (nth xs j == i) = true := by simpa using he
        have HE := Lib.hid he
        clear he
        generalize nth xs j = y at *
        go_wp2
        go_round
        case rel => exact ⟨j + 1, by omega, by go_num, x + 1, by go_num, hs.out.symm⟩
        case measure => simp [intOf]; omega
      · have hs : Hid (hitsTo xs i (j + 1) = x) := by show _ = _; unfold hitsTo; rw [if_neg he, hx.out]; rfl
        have eB : (nth xs j == i) = false := by simpa using he
        have HE := Lib.hid he
        clear he
        generalize nth xs j = y at *
        go_wp2
        go_round
        case rel => exact ⟨j + 1, by omega, by go_num, x, rfl, hs.out.symm⟩
        case measure => simp [intOf]; omega
    · have e : j = xs.length := by omega
      rw [e] at hx
      go_wp2
      go_ret
      exact ⟨ret_int (by rw [hx.out]), rfl⟩


theorem tn_check : Fk.check [5] [(3, 0)] = 0 := by decide +kernel
theorem tn_C : Fk.mendC [5] [(3, 0)] = [1] := by decide +kernel
theorem tn_E : Fk.mendE [5] [(3, 0)] = [(3, 0)] := by decide +kernel
theorem So.crash_part {L : List Int} (hl : L.length = 40) : part (So.crash L) 20 8 = part L 0 8 ∧ part (So.crash L) 28 12 = part L 8 12 := by
  have h20 : (L.take 20).length = 20 := by simp; omega
  unfold part So.crash
  constructor
  · rw [List.drop_append, h20, List.drop_of_length_le (by omega), Nat.sub_self, List.nil_append]
    simp [List.drop_zero, List.take_take]
  · rw [List.drop_append, h20, List.drop_of_length_le (by omega), List.nil_append]
    rw [show 28 - 20 = 8 from rfl, List.drop_take, List.take_take]
    rfl
/-- What the crashed disk's image is mended to. -/
theorem tn_facts {L : List Int} {k : Nat} (h : So.OK L k) (hk : k ≤ 60) :
    Fk.check (part L 0 8) (entsOf (part L 8 12) 12) = 0 ∧ Fk.mendE (part L 0 8) (entsOf (part L 8 12) 12) = entsOf (part L 8 12) 12 ∧ ∀ i : Nat, i < 8 → nth (Fk.mendC (part L 0 8) (entsOf (part L 8 12) 12)) i = hitsTo (part L 8 12) i 12 := by
  have hl := h.shp.len
  refine tn_plain (part_len (by omega)) (fun i hi => ?_) (fun e he => ?_)
  · have e1 : hitsTo (part L 8 12) i 12 = So.names L 0 i := hits_names L i 12 (Nat.le_refl _)
    rw [e1, part_nth hi, Nat.zero_add]
    have h1 := h.safe i hi
    have h2 := (h.small i hi).1
    exact ⟨h1, by omega⟩
  · rw [part_nth he]
    exact (h.shp.eD e he).2
set_option maxRecDepth 100000 in
set_option maxHeartbeats 8000000 in
theorem tn_any (w : World) (v : Value) (ls : List (List Int)) (hR : Rw w.heap.size w v ls) : Calls Try.prog 6 #[v] w (OkT w) := by
  obtain ⟨A, g, o, c, rfl, hm, hRF⟩ := hR
  have HR := Lib.hid hRF
  clear hRF
  have HF : Hid (Fr [] w ((w.alloc (.cells #[.int .i64 5] 3)).alloc (.cells #[.int .i64 3, .int .i64 0] 36))) := ((Fr.refl _ _).alloc _).alloc _
  have HV : Hid (ImV ((w.alloc (.cells #[.int .i64 5] 3)).alloc (.cells #[.int .i64 3, .int .i64 0] 36)) (.agg #[.slice (some ⟨w.heap.size, 0, none⟩) 1 1, .slice (some ⟨w.heap.size + 1, 0, none⟩) 1 1]) [5] [(3, 0)]) := by
    have h2 := heap_alloc_new (w.alloc (.cells #[.int .i64 5] 3)) (.cells #[.int .i64 3, .int .i64 0] 36)
    rw [show (w.alloc (.cells #[.int .i64 5] 3)).heap.size = w.heap.size + 1 by simp] at h2
    have h1 : ((w.alloc (.cells #[.int .i64 5] 3)).alloc (.cells #[.int .i64 3, .int .i64 0] 36)).heap[w.heap.size]? = some (.cells #[.int .i64 5] 3 (0, 0)) := ((Fr.refl [] _).alloc _).get (heap_alloc_new w _) (by simp)
    exact ⟨_, _, w.heap.size, w.heap.size + 1, rfl, sl_new [5] h1 (show 1 ≤ maxLen by decide), slr_new (En := enE) [(3, 0)] h2 (show 1 ≤ maxLen by decide)⟩
  go_enter Try.func6, Try.ntmps6
  go_wp2_with (first
    | (go_at_call 8; (with_reducible refine useC (fk_Mend_ok _ _ _ _ HV.out tn_check) ?_); rintro e w2 ⟨v, rfl, hv, hf⟩; rw [tn_C, tn_E] at hv; obtain ⟨xc, xe, k1, k2, rfl, hxc, hxe⟩ := hv; obtain ⟨A1, p1, d1, rfl, -, hA1, hd1⟩ := hxc.form; obtain ⟨A2, p2, d2, rfl, -, -, -⟩ := hxe.form; have hA1 := hA1 (by decide); subst hA1; have q0 : w2.cell? ⟨k1, p1, none⟩ = some (.int .i64 1) := hd1 0 (by decide); have q1 := cell?_alloc_old (.cells #[.slice (some ⟨k1, p1, none⟩) 1 d1, .slice A2 1 d2] 25) q0; have HF2 := Lib.hid ((HF.out.trans hf).alloc (.cells #[.slice (some ⟨k1, p1, none⟩) 1 d1, .slice A2 1 d2] 25)); clear hxc hxe hA1 hd1 hf)
    | (go_at_call 14; (with_reducible refine useC (so_New _) ?_); rintro e w0 ⟨rfl, hd, hf⟩; have S0 : Hid (SoSt w w0 (w2.heap.size + 1) So.new 0) := (⟨by simpa using hd, So.new_ok, HF2.out.trans hf, by have := HF2.out.size; simp at this; exact this⟩ : SoSt w w0 (w2.heap.size + 1) So.new 0); clear hd hf))
  go_loopw [6] (fun i wr => ∃ k : Nat, k ≤ ls.length ∧ k ≤ 60 ∧ i = .int .i64 k ∧ ∃ L, Hid (SoSt w wr (w2.heap.size + 1) L k)) (fun i _ => 60 - (intOf i).toNat)
  case atStart => exact ⟨0, Nat.zero_le _, Nat.zero_le _, rfl, _, S0⟩
  case round =>
    obtain ⟨k, hk, hk6, rfl, L, hS⟩ := hrel
    clear S0
    generalize w2.heap.size + 1 = b at *
    by_cases hin : k < ls.length ∧ k < 60
    · obtain ⟨hlt, h60⟩ := hin
      obtain ⟨rfl, hg⟩ := HR.out.1 (by omega)
      obtain ⟨u, kb, hcell, hkb, hsl, _⟩ := (HR.out.below hS.out.fr.below).2 k hlt
      obtain ⟨A', o', c', rfl, hm', hA', hc'⟩ := hsl.form
      have i0 : (0 : Int) ≤ k := by omega
      have i1 : (k : Int) < ls.length := by omega
      have i60 : (k : Int) < 60 := by omega
      clear hsl
      by_cases hl1 : (nthR ls k).length = 1
      · have e1 : ((nthR ls k).length : Int) = 1 := by omega
        have hco := Lib.hid (So.sync_ok hS.out.ok)
        have HC := Lib.hid (so_Sync wr b L k hS.out.disk hS.out.ok)
        clear hc' hA' hl1 hkb
        go_wp2_with (go_at_call 15; (with_reducible refine useC HC.out ?_); rintro e w3 hA; have he := hA.1; subst he; have HS3 := Lib.hid (hS.out.ans hA hco.out.1); clear hA)
        go_roundw
        case rel => exact ⟨k + 1, by omega, by omega, by go_num, _, HS3.out.mono (by omega)⟩
        case measure => simp [intOf]; omega
      · by_cases hl3 : (nthR ls k).length = 3
        · have e1 : ((nthR ls k).length : Int) = 3 := by omega
          obtain rfl := hA' (by omega)
          have c0 := hc' 0 (by omega)
          rw [Nat.add_zero] at c0
          have c1 := hc' 1 (by omega)
          have c2 := hc' 2 (by omega)
          rw [hl3] at hcell
          have HL := Lib.hid (so_link wr.drew b L (nth (nthR ls k) 1) (nth (nthR ls k) 2) hS.out.disk hS.out.ok.shp (hS.out.ok.bd (by omega)))
          have HP := Lib.hid (so_drop wr b L (nth (nthR ls k) 1) hS.out.disk hS.out.ok.shp (hS.out.ok.bd (by omega)))
          have HI := Lib.hid (so_Inode wr b L (nth (nthR ls k) 1) hS.out.disk hS.out.ok.shp)
          have HE := Lib.hid (so_Entry wr b L (nth (nthR ls k) 1) hS.out.disk hS.out.ok.shp)
          have HLo := Lib.hid (So.link_ok hS.out.ok (nth (nthR ls k) 1) (nth (nthR ls k) 2)).1
          have HPo := Lib.hid (So.drop_ok hS.out.ok (nth (nthR ls k) 1)).1
          have HIo := Lib.hid (So.inode_ok hS.out.ok (nth (nthR ls k) 1)).1
          have HEo := Lib.hid (So.entry_ok hS.out.ok (nth (nthR ls k) 1)).1
          clear hc' hA' hl1 hkb hl3 e1
          generalize nth (nthR ls k) 0 = x0 at *
          generalize nth (nthR ls k) 1 = x1 at *
          generalize nth (nthR ls k) 2 = x2 at *
          by_cases k0 : x0 = 0
          · subst k0
            go_wp2
            (refine wp_region_mixq 7 [(true, 0), (true, 1), (true, 2), (true, 3), (true, 4), (true, 5), (true, 6)] (by kernel_rfl) (by kernel_rfl) ?_; simp only [pickOps, List.map_cons, List.map_nil, List.getD_cons_zero, List.getD_cons_succ, List.drop_succ_cons, List.drop_zero]; (iterate 7 (first | (refine wpMix_take (v := ?_) (by rfl) ?_ ?_; rotate_left; (focus (intro W hW; subst hW; go_simp; (try with_reducible rfl); done)); try simp only [Act.put, List.setIfInBounds_toArray, List.set_cons_zero, List.set_cons_succ]) | (refine wpMix_leave (by rfl) ?_; try simp only [Act.put, List.setIfInBounds_toArray, List.set_cons_zero, List.set_cons_succ]))); refine wpMix_nil ?_)
            go_wp2_with (go_at_call 16; (with_reducible refine useC HL.out ?_); rintro e w3 hA; have he := hA.1; subst he; have HS3 : Hid (SoSt w w3 b _ (k + 1)) := (⟨hA.2.1, HLo.out, hS.out.fr.drew.step hA.2.2 (fun x hx => .inr (by simp only [List.mem_singleton] at hx; subst hx; exact hS.out.ge)), hS.out.ge⟩ : SoSt w w3 b _ (k + 1)); clear hA)
            go_roundw
            case rel => exact ⟨k + 1, by omega, by omega, by go_num, _, HS3⟩
            case measure => simp [intOf]; omega
          · have n0 : (x0 == 0) = false := by simpa using k0
            by_cases k1 : x0 = 1
            · subst k1
              go_wp2_with (go_at_call 17; (with_reducible refine useC HP.out ?_); rintro e w3 hA; have he := hA.1; subst he; have HS3 := Lib.hid (hS.out.ans hA HPo.out); clear hA)
              go_roundw
              case rel => exact ⟨k + 1, by omega, by omega, by go_num, _, HS3⟩
              case measure => simp [intOf]; omega
            · have n1 : (x0 == 1) = false := by simpa using k1
              by_cases k2 : x0 = 2
              · subst k2
                go_wp2_with (go_at_call 18; (with_reducible refine useC HI.out ?_); rintro e w3 hA; have he := hA.1; subst he; have HS3 := Lib.hid (hS.out.ans hA HIo.out); clear hA)
                go_roundw
                case rel => exact ⟨k + 1, by omega, by omega, by go_num, _, HS3.out.mono (by omega)⟩
                case measure => simp [intOf]; omega
              · have n2 : (x0 == 2) = false := by simpa using k2
                by_cases k3 : x0 = 3
                · subst k3
                  clear k0 k1 k2
                  go_wp2_with (go_at_call 19; (with_reducible refine useC HE.out ?_); rintro e w3 hA; have he := hA.1; subst he; have HS3 := Lib.hid (hS.out.ans hA HEo.out); clear hA)
                  go_roundw
                  case rel => exact ⟨k + 1, by omega, by omega, by go_num, _, HS3.out.mono (by omega)⟩
                  case measure => simp [intOf]; omega
                · have n3 : (x0 == 3) = false := by simpa using k3
                  clear k0 k1 k2 k3
                  go_wp2
                  go_roundw
                  case rel => exact ⟨k + 1, by omega, by omega, by go_num, _, hS.out.mono (by omega)⟩
                  case measure => simp [intOf]; omega
        · have e1 : (((nthR ls k).length : Int) == 1) = false := by simp; omega
          have e3 : (((nthR ls k).length : Int) != 3) = true := by simp; omega
          clear hc' hA' hl1 hkb hl3
          go_wp2
          go_roundw
          case rel => exact ⟨k + 1, by omega, by omega, by go_num, _, hS.out.mono (by omega)⟩
          case measure => simp [intOf]; omega
    · have HSE := Lib.hid (hS.out.mono hk6)
      have hout : ¬ (k : Int) < ls.length ∨ ((k : Int) < ls.length ∧ ¬ (k : Int) < 60) := by omega
      clear hS hin hk hk6
      have HCR := Lib.hid (so_Crash wr b L HSE.out.disk HSE.out.ok.shp.len)
      have HLC : Hid ((So.crash L).length = 40) := (by show (So.crash L).length = 40; unfold So.crash; have := HSE.out.ok.shp.len; simp; omega)
      have HPT := Lib.hid (So.crash_part HSE.out.ok.shp.len)
      have HTF := Lib.hid (tn_facts HSE.out.ok (Nat.le_refl _))
      have HL8 : Hid ((part L 0 8).length = 8) := part_len (by have := HSE.out.ok.shp.len; omega)
      have HL12 : Hid ((part L 8 12).length = 12) := part_len (by have := HSE.out.ok.shp.len; omega)
      rcases hout with hout | ⟨hout, hout'⟩
      all_goals
        go_wp2_with (first
          | (go_at_call 20; (with_reducible refine useC HCR.out ?_); rintro e w3 hA; have he := hA.1; subst he; have HF3 := Lib.hid (HSE.out.fr.step hA.2.2 (fun x hx => .inr (by simp only [List.mem_singleton] at hx; subst hx; exact HSE.out.ge))); have HIM := Lib.hid (so_Images w3 b (So.crash L) hA.2.1 HLC.out); clear hA)
          | (go_at_call 21; (with_reducible refine useC HIM.out ?_); rintro e w4 ⟨v1, v2, v3, v4, g1, g2, g3, g4, rfl, hs1, hs2, -, -, hf4, -⟩; rw [HPT.out.1] at hs1; rw [HPT.out.2] at hs2; have HS1 := Lib.hid hs1; have HS2 := Lib.hid hs2; obtain ⟨P1, o1, c1, rfl, -, -, -⟩ := hs1.form; obtain ⟨P2, o2, c2, rfl, -, hP2, hq2⟩ := hs2.form; rw [HL12.out] at hP2 hq2 HS2; rw [HL8.out] at HS1; rw [HL8.out, HL12.out]; have hP2 := hP2 (by decide); subst hP2; have HQ2 := Lib.hid hq2; have HF4 := Lib.hid (HF3.out.trans hf4); clear hs1 hs2 hq2 hf4 HF3 HIM))
        generalize part L 0 8 = cs at *
        generalize part L 8 12 = es at *
        have HS : Hid (SaySt w4 (w4.alloc (.cells #[.slice P1 8 c1, .slice none 0 0] 25)) w4.heap.size (.slice P1 8 c1) (.slice none 0 0) [rE enE 36 (.slice none 0 0) (entsOf es 0)]) := by
          refine ⟨im2_new w4 _ _, ⟨fun r hr => ?_, by simp⟩, (Fr.refl _ _).alloc _, Nat.le_refl _⟩
          simp only [List.mem_singleton] at hr
          subst hr
          exact World.ownsRow_nil _ _ _ _
        revert HS
        generalize (w4.alloc (.cells #[.slice P1 8 c1, .slice none 0 0] 25)) = w5
        generalize w4.heap.size = mb
        intro HS
        have HEL := Lib.hid (fun n => entsOf_len es n)
        go_loopw [13] (fun i wr => ∃ k : Nat, k ≤ 12 ∧ i = .int .i64 k ∧ ∃ vE, Hid (SaySt w4 wr mb (.slice P1 8 c1) vE [rE enE 36 vE (entsOf es k)])) (fun i _ => 12 - (intOf i).toNat)
        case atStart => exact ⟨0, Nat.zero_le _, rfl, _, HS⟩
        case round =>
          obtain ⟨j, hj, rfl, vE, hS⟩ := hrel
          by_cases hlj : j < 12
          · have hq := fun W (hW : Fr [] w4 W) => hW.cell (HQ2.out j hlj) (by simp)
            have hszr := hS.out.lt
            have j1 : (j : Int) < 12 := by omega
            have j0 : (0 : Int) ≤ (j : Int) := by omega
            have HST := Lib.hid (entsOf_step es j)
            generalize nth es j = y at *
            have HQ := Lib.hid hq
            have hq0 := hq wr hS.out.fr
            clear hq
            by_cases hy : 0 ≤ y
            · have HE1 := Lib.hid (show entsOf es (j + 1) = entsOf es j ++ [((j : Int), y)] from by rw [HST.out, if_pos hy])
              clear HST
              go_wp2
              (refine wp_region_mix (Fr [] wr ·) 9 [(true, 0), (true, 1), (true, 2), (true, 3), (true, 4), (true, 5), (true, 6), (true, 7), (false, 8)] (by kernel_rfl) (by kernel_rfl) ((Fr.refl _ _).drew) ?_; simp only [pickOps, List.map_cons, List.map_nil, List.getD_cons_zero, List.getD_cons_succ, List.drop_succ_cons, List.drop_zero])
              (iterate 8 (first | (refine wpMix_take (v := ?_) (by rfl) ?_ ?_; rotate_left; (focus (intro W hW; (have hqW := HQ.out W (hS.out.fr.trans hW); obtain ⟨d0, d1⟩ := Im2.cells (hW.get hS.out.box (by simp))); go_simp; (try with_reducible rfl); done)); try simp only [Act.put, List.setIfInBounds_toArray, List.set_cons_zero, List.set_cons_succ]) | (refine wpMix_leave (by rfl) ?_; try simp only [Act.put, List.setIfInBounds_toArray, List.set_cons_zero, List.set_cons_succ])))
              refine wpMix_walk ?_
              go_wp2
              refine MixQ.mk (((Fr.refl _ _).drew).alloc _) ?_
              refine wpMix_nil ?_
              have H6d := Lib.hid (hS.out.step (Fr.refl [] wr).drew)
              go_wp2_with (first
                | (at_builtin; refine wpList_push_enc2 (E := enE) (wr := wr.drew) (y := ((j : Int), y)) Try.underlying23 Try.info_ent rfl (by decide) rfl _ _ rfl (mb + 1) _ (entsOf es j) rfl rfl H6d.out.rows.p0 rfl (by have := HEL.out j; omega) hszr ?_; intro v' w7 h1 hg hm; obtain ⟨A', n', c', rfl⟩ := h1.slice; have H7 : Hid (SaySt w4 w7 mb (.slice P1 8 c1) vE [rE enE 36 (.slice A' n' c') (entsOf es j ++ [((j : Int), y)])]) := H6d.out.grow H6d.out.rows.p0 hg (H6d.out.rows.push0 (r' := rE enE 36 (.slice A' n' c') (entsOf es j ++ [((j : Int), y)])) (by exact h1) hg hm (by show wr.heap.size ≤ wr.heap.size + 1; omega)); obtain ⟨d2, d3⟩ := H7.out.box.cells; have hfz := free_block H7.out.box 1 none; clear h1 hg hm)
                | fail)
              go_roundw
              case rel => exact ⟨j + 1, by omega, by go_num, _, by show SaySt _ _ _ _ _ _; rw [HE1.out]; exact H7.out.put1 _⟩
              case measure => simp [intOf]; omega
            · have HE1 := Lib.hid (show entsOf es (j + 1) = entsOf es j from by rw [HST.out, if_neg hy])
              have hy' : y < 0 := by omega
              clear HST hy
              go_wp2
              go_roundw
              case rel => exact ⟨j + 1, by omega, by go_num, _, by show SaySt _ _ _ _ _ _; rw [HE1.out]; exact hS.out⟩
              case measure => simp [intOf]; omega
          · have hj' : j = 12 := by omega
            subst hj'
            clear HS
            obtain ⟨gE, -, hsE⟩ := OwnR.sl (E := enE) (e := 36) (v := vE) (l := entsOf es 12) hS.out.rows.p0
            obtain ⟨AE, oE, cE, rfl, -, -, -⟩ := hsE.form
            have HIM : Hid (ImV wr (.agg #[.slice P1 8 c1, .slice AE (entsOf es 12).length cE]) cs (entsOf es 12)) := ⟨_, _, g1, gE, rfl, HS1.out.fr hS.out.fr (by simp), hsE⟩
            have HBX := Lib.hid (fun W (hW : Fr [] wr W) => Im2.cells (hW.get hS.out.box (by simp)))
            obtain ⟨d0, d1⟩ := hS.out.box.cells
            have HMC := Lib.hid (show (Fk.mendC cs (entsOf es 12)).length = 8 from by rw [Fk.mendC_len, HL8.out])
            clear hsE
            go_wp2_with (go_at_call 8; (with_reducible refine useC (fk_Mend_ok wr _ cs (entsOf es 12) HIM.out HTF.out.1) ?_); rintro e w6 ⟨vx, rfl, hvx, hf6⟩; rw [HTF.out.2.1] at hvx; obtain ⟨xc, xe, k1, k2, rfl, hxc, hxe⟩ := hvx; obtain ⟨X1, p1, d1, rfl, -, hX1, hx1⟩ := hxc.form; obtain ⟨X2, p2, d2, rfl, -, -, -⟩ := hxe.form; rw [HMC.out] at hX1 hx1; rw [HMC.out]; have hX1 := hX1 (by decide); subst hX1; have HX1 := Lib.hid hx1; obtain ⟨y0, y1⟩ := HBX.out _ (hf6.alloc (.cells #[.slice (some ⟨k1, p1, none⟩) 8 d1, .slice X2 (entsOf es 12).length d2] 25)); have HF6 := Lib.hid (((HF4.out.trans hS.out.fr).trans hf6).alloc (.cells #[.slice (some ⟨k1, p1, none⟩) 8 d1, .slice X2 (entsOf es 12).length d2] 25)); have HS6 := Lib.hid (HS2.out.fr ((hS.out.fr.trans hf6).alloc (.cells #[.slice (some ⟨k1, p1, none⟩) 8 d1, .slice X2 (entsOf es 12).length d2] 25)) (by simp)); clear hx1 hxc hxe hf6)
            have HXB : Hid (∀ W, Fr [] (w6.alloc (.cells #[.slice (some ⟨k1, p1, none⟩) 8 d1, .slice X2 (entsOf es 12).length d2] 25)) W → (W.cell? ⟨w6.heap.size, 0, none⟩ = some (.slice (some ⟨k1, p1, none⟩) 8 d1) ∧ W.cell? ⟨w6.heap.size, 1, none⟩ = some (.slice X2 (entsOf es 12).length d2)) ∧ ∀ i, i < 8 → W.cell? ⟨k1, p1 + i, none⟩ = some (.int .i64 (nth (Fk.mendC cs (entsOf es 12)) i))) := fun W hW => ⟨im2_at _ _ _ hW, fun i hi => (((Fr.refl [] w6).alloc _).trans hW).cell (HX1.out i hi) (by simp)⟩
            revert HXB HF6 HS6
            generalize (w6.alloc (.cells #[.slice (some ⟨k1, p1, none⟩) 8 d1, .slice X2 (entsOf es 12).length d2] 25)) = w7
            generalize w6.heap.size = xb
            intro HF6 HS6 HXB
            go_loopw [16] (fun i wr => ∃ k : Nat, k ≤ 8 ∧ i = .int .i64 k ∧ Hid (Fr [] w7 wr)) (fun i _ => 8 - (intOf i).toNat)
            case atStart => exact ⟨0, Nat.zero_le _, rfl, Fr.refl _ _⟩
            case round =>
              obtain ⟨q, hq, rfl, hF⟩ := hrel
              by_cases hlq : q < 8
              · have q1 : (q : Int) < 8 := by omega
                have q0 : (0 : Int) ≤ (q : Int) := by omega
                obtain ⟨⟨x0, x1⟩, xc⟩ := HXB.out wr.drew hF.out.drew
                have xq := xc q hlq
                rw [HTF.out.2.2 q hlq] at xq
                have HN : Hid (Calls Try.prog 22 #[.slice (some ⟨g2, o2, none⟩) 12 c2, .int .i64 q] wr.drew fun e w' => e = .returned (.int .i64 (hitsTo es q 12 : Int)) ∧ wr.drew = w') := by
                  have h := names_any wr.drew _ g2 es q (HS6.out.fr hF.out.drew (by simp)) (by rw [HL12.out]; decide)
                  rw [HL12.out] at h
                  exact h
                have hnb := hitsTo_le es q 12
                clear xc
                generalize hitsTo es (q : Int) 12 = m at *
                go_wp2
                (refine wp_region_mix (· = wr.drew) 8 [(true, 0), (true, 1), (true, 2), (true, 3), (true, 4), (true, 5), (true, 6), (false, 7)] (by kernel_rfl) (by kernel_rfl) (rfl) ?_; simp only [pickOps, List.map_cons, List.map_nil, List.getD_cons_zero, List.getD_cons_succ, List.drop_succ_cons, List.drop_zero])
                (iterate 7 (first | (refine wpMix_take (v := ?_) (by rfl) ?_ ?_; rotate_left; (focus (intro W hW; subst hW; go_simp; (try with_reducible rfl); done)); try simp only [Act.put, List.setIfInBounds_toArray, List.set_cons_zero, List.set_cons_succ]) | (refine wpMix_leave (by rfl) ?_; try simp only [Act.put, List.setIfInBounds_toArray, List.set_cons_zero, List.set_cons_succ])))
                refine wpMix_walk ?_
                go_wp2_with (go_at_call 22; (with_reducible refine useC HN.out ?_); rintro e w' ⟨rfl, rfl⟩)
                refine MixQ.mk (rfl) ?_
                refine wpMix_nil ?_
                go_wp2
                go_roundw
                case rel => exact ⟨q + 1, by omega, by go_num, hF.out.drew⟩
                case measure => simp [intOf]; omega
              · have hq8 : q = 8 := by omega
                subst hq8
                go_wp2
                go_ret
                exact ⟨rfl, HF6.out.trans hF.out⟩
end Go.Proofs.Ytbohlbnbaomkiaa
