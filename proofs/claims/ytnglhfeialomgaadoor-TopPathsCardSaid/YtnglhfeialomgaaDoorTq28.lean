/- The law TopPaths. -/

import Derived.Test.YtnglhfeialomgaaDoorTq21
import Derived.Test.YtnglhfeialomgaaDoorTq26
import Derived.Test.YtnglhfeialomgaaDoorTq27
namespace Go.Proofs.YtnglhfeialomgaaDoor
open Go.RowKit

namespace Tr
/-- What Walk tells of a tree with /a alone. -/
theorem fact_5 {n m c : Nat} {o : Option Nat} (hc : ¬ c = n) (ho : o.isSome = true) {l : List (List UInt8)} (hl : WalkIs (fg1 n m c o) l) : l = [[47, 97, 47]] := by
  refine lt_eq hl.1 (by decide +kernel) (fun s => ?_)
  have i1 : InW (fg1 n m c o) s ↔ InW (G.new n m) s ∨ s = txtB ([] ++ [[97]]) o.isSome := made_inW (dom := (· = n)) (new_ok n m) rfl (fun d x e hd hk => by
    have hd : d = n := hd
    subst hd
    rw [kid_of (new_ent d m)] at hk
    cases hk) hc rfl (by rw [new_ent]; rfl) (by rw [kid_of (new_ent n m)]) s
  rw [hl.2, i1, ho]
  have t1 : txtB ([] ++ [[97]]) true = [47, 97, 47] := by decide +kernel
  rw [t1]
  simp only [new_inW, false_or, List.mem_cons, List.not_mem_nil, or_false]
end Tr
theorem one_lit (w : World) : SlR strE (w.alloc (.cells #[.string ⟨#[47, 97, 47]⟩] 9)) (.slice (some ⟨w.heap.size, 0, none⟩) 1 1) w.heap.size [[47, 97, 47]] := by
  refine .inr ⟨0, 1, rfl, by decide, by unfold maxLen; omega, fun i hi r hr => ?_⟩
  have hr : r < 1 := hr
  obtain rfl : r = 0 := by omega
  rw [cell_of_row _ _ _ _ _ _ (heap_alloc_new w _)]
  have hi : i < 1 := hi
  match i, hi with
  | 0, _ => rfl
set_option maxRecDepth 100000 in
set_option maxHeartbeats 8000000 in
theorem top_paths (w : World) (v : Value) (ls : List (List (List UInt8))) (hR : RwT w v ls) :
    Calls Tryd.prog 7 #[v] w (OkT w) := by
  obtain ⟨A, g, o, c, rfl, hm, hA, hc⟩ := hR
  have HN := Lib.hid (trl_new (Fr.refl [] w))
  have HN2 := Lib.hid (fun W (h : Fr [] w W) => trn_new (w0 := w) h)
  have HA := Lib.hid hA
  have HC := Lib.hid hc
  clear hA hc
  go_enter Tryd.func7, Tryd.ntmps7
  go_upto_region 2 with (go_at_call 22; (with_reducible refine useC HN.out ?_); rintro e w1 ⟨tb, n, m, rfl, h⟩; have HL := Lib.hid h; clear h)
  obtain ⟨p1, p2⟩ := Tr.fact_1 n m
  have HD : Hid (Calls Tryd.prog 17 #[.pointer (some ⟨tb, 0, none⟩), .string ⟨#[47, 97]⟩] w1 fun e w' => e = .returned .nilIface ∧ ∃ c o, Hid (¬ c = n) ∧ Hid (Option.isSome o = true) ∧ TrL w w' tb (Tr.fg1 n m c o) (fun b => b = n ∨ b = c) 1) :=
    (trl_Dir HL.out (by decide) ⟨#[47, 97]⟩).mono fun e w' h => h.ok p2 p1
  clear p1 p2
  go_upto_region 4 with (first
    | (go_at_call 17; (with_reducible refine useC HD.out ?_); rintro e w2 ⟨rfl, c1, o1, hc1, ho1, h⟩; have HL1 := Lib.hid h; have HWK := Lib.hid (trl_Walk h); clear h)
    | (go_at_call 11; (with_reducible refine useC HWK.out ?_); rintro e w3 ⟨v3, l3, gv3, rfl, -, hs, hw, -, -, h⟩; obtain rfl := Tr.fact_5 hc1.out ho1.out hw; obtain ⟨A3, o3, c3, rfl, -⟩ := strs_cell hs; have HF3 := Lib.hid h.fr; have HTX := Lib.hid (texts_same _ _ _ _ _ _ (slR_alloc hs _) (one_lit w3)); clear hs hw h)
    | (go_at_call 15; (with_reducible refine useC HTX.out ?_); rintro e w4 ⟨rfl, hf⟩; have HF4 := Lib.hid ((HF3.out.trans ((Fr.refl [] w3).alloc _)).trans hf); clear hf))
  -- ROUNDS
  go_wp2_with (go_at_call 22; (with_reducible refine useC (HN2.out w4 HF4.out) ?_); rintro e w5 ⟨tb, rfl, h⟩; have HL5 := Lib.hid h; clear h)
  clear HL HD hc1 ho1 HL1 HWK HF3 HTX HN HN2
  go_loopw [4] (fun iv wr => ∃ i : Nat, i ≤ ls.length ∧ i ≤ 40 ∧ iv = .int .i64 i ∧ Hid (TrN w wr tb (2 * i))) (fun iv _ => ls.length - (intOf iv).toNat)
  case atStart => exact ⟨0, Nat.zero_le _, by decide, rfl, HL5⟩
  case round =>
    clear HL5
    obtain ⟨i, hi, h40, rfl, hI⟩ := hrel
    have i0 : (0 : Int) ≤ i := by omega
    by_cases hlt : i < ls.length ∧ i < 40
    · obtain ⟨hlt, hl4⟩ := hlt
      have iI : (i : Int) < ls.length := by omega
      have i4 : (i : Int) < 40 := by omega
      obtain rfl := HA.out (by omega)
      obtain ⟨u, gi, hu, hs⟩ := HC.out i hlt
      obtain ⟨B, o2, c2, rfl, hm2, hcap2, hB, hcc⟩ := strs_cell hs
      have q := hI.out.fr.cell hu (by simp)
      have HARGS := Lib.hid hB
      generalize ls[i] = x at *
      have hsh : (∃ a s, x = [a, s]) ∨ (∃ a s u2, x = [a, s, u2]) ∨ (x.length ≠ 2 ∧ x.length ≠ 3) := by
        rcases x with _ | ⟨a, _ | ⟨b, _ | ⟨d, _ | ⟨e, r⟩⟩⟩⟩
        · exact .inr (.inr (by simp))
        · exact .inr (.inr (by simp))
        · exact .inl ⟨a, b, rfl⟩
        · exact .inr (.inl ⟨a, b, d, rfl⟩)
        · exact .inr (.inr (by simp))
      rcases hsh with ⟨a, s, rfl⟩ | ⟨a, s, u2, rfl⟩ | ⟨n2, n3⟩
      · have HK0 := hcc 0 (by simp)
        have HK1 := hcc 1 (by simp)
        obtain rfl := hB (by simp)
        have HK0 : w.cell? ⟨gi, o2, none⟩ = some (.string (Pa.mk a)) := HK0
        have HK1 : w.cell? ⟨gi, o2 + 1, none⟩ = some (.string (Pa.mk s)) := HK1
        have k0 := hI.out.fr.cell HK0 (by simp)
        have k1 := hI.out.fr.cell HK1 (by simp)
        have K0 := Lib.hid HK0
        have hcap2 : 2 ≤ c2 := hcap2
        have q : wr.cell? ⟨g, o + i, none⟩ = some (.slice (some ⟨gi, o2, none⟩) 2 c2) := q
        clear hB hcc hs hu HK0 HK1 hm2
        by_cases ha : a = [100]
        · have e100 : ((Pa.mk a).toList == [100]) = true := by rw [mk_toList, ha]; rfl
          have e102 : ((Pa.mk a).toList == [102]) = false := by rw [mk_toList, ha]; rfl
          have e120 : ((Pa.mk a).toList == [120]) = false := by rw [mk_toList, ha]; rfl
          have e108 : ((Pa.mk a).toList == [108]) = false := by rw [mk_toList, ha]; rfl
          have e109 : ((Pa.mk a).toList == [109]) = false := by rw [mk_toList, ha]; rfl
          have HOP := Lib.hid (TrN.dir hI.out (by omega) (Pa.mk s))
          clear ha
          generalize Pa.mk a = ma at *
          generalize Pa.mk s = ms at *
          go_wp2_with (go_at_call 17; (with_reducible refine useC HOP.out ?_); rintro e w6 ⟨⟨v6, rfl⟩, h⟩; have HL6 := Lib.hid h; have k0' := h.fr.cell K0.out (by simp); clear h)
          go_roundw
          case rel => exact ⟨i + 1, by omega, by omega, by go_num, Lib.hid (HL6.out.mono (by omega))⟩
          case measure => (simp [intOf]; try omega)
        · by_cases ha2 : a = [102]
          · clear ha
            have ha := ha2
            clear ha2
            have e100 : ((Pa.mk a).toList == [100]) = false := by rw [mk_toList, ha]; rfl
            have e102 : ((Pa.mk a).toList == [102]) = true := by rw [mk_toList, ha]; rfl
            have e120 : ((Pa.mk a).toList == [120]) = false := by rw [mk_toList, ha]; rfl
            have e108 : ((Pa.mk a).toList == [108]) = false := by rw [mk_toList, ha]; rfl
            have e109 : ((Pa.mk a).toList == [109]) = false := by rw [mk_toList, ha]; rfl
            have HOP := Lib.hid (TrN.file hI.out (by omega) (Pa.mk s))
            clear ha
            generalize Pa.mk a = ma at *
            generalize Pa.mk s = ms at *
            go_wp2_with (go_at_call 16; (with_reducible refine useC HOP.out ?_); rintro e w6 ⟨⟨v6, rfl⟩, h⟩; have HL6 := Lib.hid h; have k0' := h.fr.cell K0.out (by simp); clear h)
            go_roundw
            case rel => exact ⟨i + 1, by omega, by omega, by go_num, Lib.hid (HL6.out.mono (by omega))⟩
            case measure => (simp [intOf]; try omega)
          · by_cases ha3 : a = [120]
            · clear ha ha2
              have ha := ha3
              clear ha3
              have e100 : ((Pa.mk a).toList == [100]) = false := by rw [mk_toList, ha]; rfl
              have e102 : ((Pa.mk a).toList == [102]) = false := by rw [mk_toList, ha]; rfl
              have e120 : ((Pa.mk a).toList == [120]) = true := by rw [mk_toList, ha]; rfl
              have e108 : ((Pa.mk a).toList == [108]) = false := by rw [mk_toList, ha]; rfl
              have e109 : ((Pa.mk a).toList == [109]) = false := by rw [mk_toList, ha]; rfl
              have HOP := Lib.hid (TrN.drop hI.out (by omega) (Pa.mk s))
              clear ha
              generalize Pa.mk a = ma at *
              generalize Pa.mk s = ms at *
              go_wp2_with (go_at_call 13; (with_reducible refine useC HOP.out ?_); rintro e w6 ⟨⟨v6, rfl⟩, h⟩; have HL6 := Lib.hid h; have k0' := h.fr.cell K0.out (by simp); clear h)
              go_roundw
              case rel => exact ⟨i + 1, by omega, by omega, by go_num, Lib.hid (HL6.out.mono (by omega))⟩
              case measure => (simp [intOf]; try omega)
            · have e100 : ((Pa.mk a).toList == [100]) = false := by rw [mk_toList]; exact beq_eq_false_iff_ne.2 ha
              have e102 : ((Pa.mk a).toList == [102]) = false := by rw [mk_toList]; exact beq_eq_false_iff_ne.2 ha2
              have e120 : ((Pa.mk a).toList == [120]) = false := by rw [mk_toList]; exact beq_eq_false_iff_ne.2 ha3
              clear ha ha2 ha3
              generalize Pa.mk a = ma at *
              generalize Pa.mk s = ms at *
              clear HARGS
              go_wp2
              go_roundw
              case rel => exact ⟨i + 1, by omega, by omega, by go_num, Lib.hid (hI.out.mono (by omega))⟩
              case measure => (simp [intOf]; try omega)
      · have HK0 := hcc 0 (by simp)
        have HK1 := hcc 1 (by simp)
        have HK2 := hcc 2 (by simp)
        obtain rfl := hB (by simp)
        have HK0 : w.cell? ⟨gi, o2, none⟩ = some (.string (Pa.mk a)) := HK0
        have HK1 : w.cell? ⟨gi, o2 + 1, none⟩ = some (.string (Pa.mk s)) := HK1
        have HK2 : w.cell? ⟨gi, o2 + 2, none⟩ = some (.string (Pa.mk u2)) := HK2
        have k0 := hI.out.fr.cell HK0 (by simp)
        have k1 := hI.out.fr.cell HK1 (by simp)
        have k2 := hI.out.fr.cell HK2 (by simp)
        have K0 := Lib.hid HK0
        have hcap2 : 3 ≤ c2 := hcap2
        have q : wr.cell? ⟨g, o + i, none⟩ = some (.slice (some ⟨gi, o2, none⟩) 3 c2) := q
        clear hB hcc hs hu HK0 HK1 HK2 hm2
        by_cases ha : a = [108]
        · have e100 : ((Pa.mk a).toList == [100]) = false := by rw [mk_toList, ha]; rfl
          have e102 : ((Pa.mk a).toList == [102]) = false := by rw [mk_toList, ha]; rfl
          have e120 : ((Pa.mk a).toList == [120]) = false := by rw [mk_toList, ha]; rfl
          have e108 : ((Pa.mk a).toList == [108]) = true := by rw [mk_toList, ha]; rfl
          have e109 : ((Pa.mk a).toList == [109]) = false := by rw [mk_toList, ha]; rfl
          have HOP := Lib.hid (TrN.link (hI.out.step (Fr.refl [] wr).drew) (by omega) (Pa.mk s) (Pa.mk u2))
          clear ha
          generalize Pa.mk a = ma at *
          generalize Pa.mk s = ms at *
          generalize Pa.mk u2 = mu at *
          go_wp2_with fail
          (refine wp_region_mixq 7 [(true, 0), (true, 1), (true, 2), (true, 3), (true, 4), (true, 5), (true, 6)] (by kernel_rfl) (by kernel_rfl) ?_; simp only [pickOps, List.map_cons, List.map_nil, List.getD_cons_zero, List.getD_cons_succ, List.drop_succ_cons, List.drop_zero]; (iterate 7 (first | (refine wpMix_take (v := ?_) (by rfl) ?_ ?_; rotate_left; (focus (intro W hW; subst hW; go_simp; (try with_reducible rfl); done)); try simp only [Act.put, List.setIfInBounds_toArray, List.set_cons_zero, List.set_cons_succ]) | (refine wpMix_leave (by rfl) ?_; try simp only [Act.put, List.setIfInBounds_toArray, List.set_cons_zero, List.set_cons_succ]))); refine wpMix_nil ?_)
          go_wp2_with (go_at_call 12; (with_reducible refine useC HOP.out ?_); rintro e w6 ⟨⟨v6, rfl⟩, h⟩; have HL6 := Lib.hid h; have k0' := h.fr.cell K0.out (by simp); clear h)
          go_roundw
          case rel => exact ⟨i + 1, by omega, by omega, by go_num, Lib.hid (HL6.out.mono (by omega))⟩
          case measure => (simp [intOf]; try omega)
        · by_cases ha2 : a = [109]
          · clear ha
            have ha := ha2
            clear ha2
            have e100 : ((Pa.mk a).toList == [100]) = false := by rw [mk_toList, ha]; rfl
            have e102 : ((Pa.mk a).toList == [102]) = false := by rw [mk_toList, ha]; rfl
            have e120 : ((Pa.mk a).toList == [120]) = false := by rw [mk_toList, ha]; rfl
            have e108 : ((Pa.mk a).toList == [108]) = false := by rw [mk_toList, ha]; rfl
            have e109 : ((Pa.mk a).toList == [109]) = true := by rw [mk_toList, ha]; rfl
            have HOP := Lib.hid (TrN.move (hI.out.step (Fr.refl [] wr).drew) (by omega) (Pa.mk s) (Pa.mk u2))
            clear ha
            generalize Pa.mk a = ma at *
            generalize Pa.mk s = ms at *
            generalize Pa.mk u2 = mu at *
            go_wp2_with fail
            (refine wp_region_mixq 7 [(true, 0), (true, 1), (true, 2), (true, 3), (true, 4), (true, 5), (true, 6)] (by kernel_rfl) (by kernel_rfl) ?_; simp only [pickOps, List.map_cons, List.map_nil, List.getD_cons_zero, List.getD_cons_succ, List.drop_succ_cons, List.drop_zero]; (iterate 7 (first | (refine wpMix_take (v := ?_) (by rfl) ?_ ?_; rotate_left; (focus (intro W hW; subst hW; go_simp; (try with_reducible rfl); done)); try simp only [Act.put, List.setIfInBounds_toArray, List.set_cons_zero, List.set_cons_succ]) | (refine wpMix_leave (by rfl) ?_; try simp only [Act.put, List.setIfInBounds_toArray, List.set_cons_zero, List.set_cons_succ]))); refine wpMix_nil ?_)
            go_wp2_with (go_at_call 14; (with_reducible refine useC HOP.out ?_); rintro e w6 ⟨⟨v6, rfl⟩, h⟩; have HL6 := Lib.hid h; have k0' := h.fr.cell K0.out (by simp); clear h)
            go_roundw
            case rel => exact ⟨i + 1, by omega, by omega, by go_num, Lib.hid (HL6.out.mono (by omega))⟩
            case measure => (simp [intOf]; try omega)
          · have e108 : ((Pa.mk a).toList == [108]) = false := by rw [mk_toList]; exact beq_eq_false_iff_ne.2 ha
            have e109 : ((Pa.mk a).toList == [109]) = false := by rw [mk_toList]; exact beq_eq_false_iff_ne.2 ha2
            clear ha ha2
            generalize Pa.mk a = ma at *
            generalize Pa.mk s = ms at *
            clear HARGS
            go_wp2
            go_roundw
            case rel => exact ⟨i + 1, by omega, by omega, by go_num, Lib.hid (hI.out.mono (by omega))⟩
            case measure => (simp [intOf]; try omega)
      · obtain ⟨N, hN⟩ : ∃ N, x.length = N := ⟨_, rfl⟩
        rw [hN] at n2 n3 q hm2
        have f2 : ((N : Int) == 2) = false := beq_eq_false_iff_ne.2 (by omega)
        have f3 : ((N : Int) == 3) = false := beq_eq_false_iff_ne.2 (by omega)
        clear hB hcc hs hu hN n2 n3 hcap2
        clear HARGS
        go_wp2
        go_roundw
        case rel => exact ⟨i + 1, by omega, by omega, by go_num, Lib.hid (hI.out.mono (by omega))⟩
        case measure => (simp [intOf]; try omega)
    · have HE := Lib.hid hI.out
      have hstop : (¬ (i : Int) < ls.length ∧ True) ∨ ((i : Int) < ls.length ∧ ¬ (i : Int) < 40) := by
        by_cases h : i < ls.length
        · exact .inr ⟨by omega, by omega⟩
        · exact .inl ⟨by omega, trivial⟩
      clear hlt
      rcases hstop with ⟨j1, -⟩ | ⟨j1, j2⟩
      all_goals
        obtain ⟨g9, dom, ns, hL9, hN9⟩ := HE.out
        have HL9 := Lib.hid hL9
        have HNS := Lib.hid hN9
        have HW9 := Lib.hid (trl_Walk hL9)
        clear hL9 hN9
        go_upto_region 20 with (go_at_call 11; (with_reducible refine useC HW9.out ?_); rintro e w7 ⟨v7, l7, gv7, rfl, -, hs, hw, hlen, -, h⟩; have HL7 := Lib.hid h; have HS7 := Lib.hid hs; have HWI := Lib.hid hw; have HLEN := Lib.hid hlen; obtain ⟨A7, o7, c7, rfl, -⟩ := strs_cell hs; clear hs hw hlen h)
        have hl24 : l7.length ≤ 24 := by have h1 := HLEN.out; have h2 := HL7.out.s.many; omega
        have HOK := Lib.hid HL7.out.s.ok
        go_wp2_with fail
        go_loopw [7] (fun iv wr => ∃ k : Nat, k ≤ l7.length ∧ iv = .int .i64 k ∧ Hid (Fr [] w7 wr)) (fun iv _ => 30 - (intOf iv).toNat)
        case atStart => exact ⟨0, Nat.zero_le _, rfl, Lib.hid (Fr.refl [] w7)⟩
        case round =>
          obtain ⟨k, hk, rfl, hF⟩ := hrel
          have k0 : (0 : Int) ≤ k := by omega
          by_cases hlt : k < l7.length
          · have i1 : (k : Int) < l7.length := by omega
            obtain ⟨A9, o9, c9, e9, -, -, hA9, hc9⟩ := strs_cell HS7.out
            injection e9 with e9 _ e9c
            subst e9 e9c
            obtain rfl := hA9 (by omega)
            have ca := hF.out.cell (hc9 k hlt) (by simp)
            have HCA := Lib.hid (hc9 k hlt)
            obtain ⟨P, x, d, cn, m, b, TA⟩ := Tr.tw_of HOK.out ((HWI.out.2 _).1 (List.getElem_mem hlt))
            have hcl : Pa.clean (Pa.mk l7[k]).data.toList = (Pa.shown (P ++ [x]), 0) := by
              unfold Pa.clean
              rw [Pa.mk_list, TA.parts, if_pos rfl]
            have HCL : Hid (∀ W, Calls Tryd.prog 23 #[.string (Pa.mk l7[k])] W fun e w' => e = .returned (.tuple #[.string (Pa.mk (Pa.shown (P ++ [x]))), .nilIface]) ∧ Fr [] W w') := fun W => (pa_Clean (Pa.mk l7[k]) W).mono fun e w' ⟨he, hf⟩ => ⟨by rw [he, hcl]; rfl, hf⟩
            have hsz : (Pa.mk (Pa.shown (P ++ [x]))).size ≤ 100000 := by
              have h1 := congrArg List.length TA.txt
              have h2 := TA.len
              rw [List.length_append] at h1
              rw [Pa.mk_size]
              omega
            have hent := TA.isD
            have hnv : namesV g9 (Pa.shown (P ++ [x])) = .tuple #[.int .i64 (if (g9.ent cn).isSome = true then 0 else g9.nms cn), .nilIface] := by
              unfold namesV
              rw [TA.atX]
            have hpos : 0 < g9.nms cn := by
              obtain ⟨p, hp, hf⟩ := Tr.atV_path TA.atX
              have hp2 := TA.parts
              refine HNS.out.pos (p := P ++ [x]) (by simp) ?_
              obtain ⟨p2, hp3, hf2⟩ := Tr.atV_path TA.atS
              rw [hp2] at hp3
              rw [(Prod.mk.inj hp3).1]
              exact hf2
            have hTX : Pa.mk (Pa.shown (P ++ [x])) ++ (if b = true then (⟨#[47]⟩ : ByteArray) else ⟨#[]⟩) = Pa.mk l7[k] := by
              have := TA.txt
              rw [this]
              cases b with
              | true => exact mk_append _ [47]
              | false => exact mk_append _ []
            cases b with
            | true =>
              rw [if_pos rfl] at hTX
              rw [hent, if_pos rfl] at hnv
              have HNM : Hid (∀ W, Fr [] w7 W → Calls Tryd.prog 10 #[.pointer (some ⟨tb, 0, none⟩), .string (Pa.mk (Pa.shown (P ++ [x])))] W fun e w' => e = .returned (.tuple #[.int .i64 0, .nilIface]) ∧ Fr [] W w') := fun W hW => (trl_Names (HL7.out.step hW) (Pa.mk (Pa.shown (P ++ [x])))).mono fun e w' ⟨he, _, hf⟩ => ⟨by rw [he, Pa.mk_list, hnv], hf⟩
              clear hnv hpos hent hcl TA hA9 hc9
              generalize Pa.mk (Pa.shown (P ++ [x])) = ms at *
              generalize Pa.mk l7[k] = ma at *
              go_wp2_with (first
                | (go_at_call 23; (with_reducible refine useC (HCL.out wr) ?_); rintro e w8 ⟨rfl, hf⟩; have HF8 := Lib.hid (hF.out.trans hf); have ca8 := hf.cell ca (by simp); clear hf)
                | (go_at_call 10; (with_reducible refine useC (HNM.out w8 HF8.out) ?_); rintro e w9 ⟨rfl, hf⟩; have HF9 := Lib.hid (HF8.out.trans hf); clear hf))
              go_roundw
              case rel => exact ⟨k + 1, by omega, by go_num, HF9⟩
              case measure => (simp [intOf]; try omega)
            | false =>
              have hTX2 : Pa.mk l7[k] = Pa.mk (Pa.shown (P ++ [x])) := by
                rw [← hTX, if_neg (by decide)]
                exact (mk_append _ []).trans (by rw [List.append_nil])
              rw [hent, if_neg (by decide)] at hnv
              have HNM : Hid (∀ W, Fr [] w7 W → Calls Tryd.prog 10 #[.pointer (some ⟨tb, 0, none⟩), .string (Pa.mk (Pa.shown (P ++ [x])))] W fun e w' => e = .returned (.tuple #[.int .i64 (g9.nms cn), .nilIface]) ∧ Fr [] W w') := fun W hW => (trl_Names (HL7.out.step hW) (Pa.mk (Pa.shown (P ++ [x])))).mono fun e w' ⟨he, _, hf⟩ => ⟨by rw [he, Pa.mk_list, hnv], hf⟩
              have hz : (g9.nms cn == 0) = false := beq_eq_false_iff_ne.2 (by omega)
              have hne : ((Pa.mk (Pa.shown (P ++ [x]))).toList == (Pa.mk (Pa.shown (P ++ [x])) ++ (⟨#[47]⟩ : ByteArray)).toList) = false := by
                rw [show Pa.mk (Pa.shown (P ++ [x])) ++ (⟨#[47]⟩ : ByteArray) = Pa.mk (Pa.shown (P ++ [x]) ++ [47]) from mk_append _ [47], mk_toList, mk_toList]
                refine beq_eq_false_iff_ne.2 (fun e => ?_)
                have := congrArg List.length e
                simp at this
              rw [hTX2] at ca HCL HCA
              clear hnv hpos hent hcl TA hA9 hc9 hTX hTX2
              generalize Pa.mk (Pa.shown (P ++ [x])) = ms at *
              generalize g9.nms cn = q9 at *
              go_wp2_with (first
                | (go_at_call 23; (with_reducible refine useC (HCL.out wr) ?_); rintro e w8 ⟨rfl, hf⟩; have HF8 := Lib.hid (hF.out.trans hf); have ca8 := hf.cell ca (by simp); clear hf)
                | (go_at_call 10; (with_reducible refine useC (HNM.out w8 HF8.out) ?_); rintro e w9 ⟨rfl, hf⟩; have HF9 := Lib.hid (HF8.out.trans hf); clear hf))
              go_roundw
              case rel => exact ⟨k + 1, by omega, by go_num, HF9⟩
              case measure => (simp [intOf]; try omega)
          · have i1 : ¬ (k : Int) < l7.length := by omega
            have HF9 := Lib.hid (HL7.out.fr.trans hF.out)
            go_wp2
            go_ret
            exact ⟨rfl, HF9.out⟩
end Go.Proofs.YtnglhfeialomgaaDoor
