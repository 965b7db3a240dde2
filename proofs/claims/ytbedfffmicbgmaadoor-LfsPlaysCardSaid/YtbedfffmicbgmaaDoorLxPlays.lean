/- LfsPlays: any disk, and anything that is done with it. Printed by wip/gen_lxplays.py. -/
import Derived.Test.YtbedfffmicbgmaaDoorLxPlays0
import Derived.Test.YtbedfffmicbgmaaDoorCIn3
import Derived.Test.YtbedfffmicbgmaaDoorRw2
import Derived.Test.YtbedfffmicbgmaaDoorFork
namespace Go.Proofs.YtbedfffmicbgmaaDoor
open Go.RowKit

theorem Lx.clean_ok4 {d : Lf.D} {x : Lx.X} {n : Nat} (h : ∃ c, Lx.Rel (fun _ => False) d x c) (hO : Lf.OK d) (hx : Lx.OK x n) : Lx.OK (Lx.clean x).1 (n + 4) := by
  obtain ⟨c, h⟩ := h
  cases hb : Lx.bestTo x 6 with
  | none => unfold Lx.clean; rw [hb]; exact hx.mono (by omega)
  | some b =>
    have hl := Lx.live_len h (Lx.bestTo_lt x 6 b hb)
    have h1 := Lf.live_le d b
    have h2 := hO.small b (Lx.bestTo_lt x 6 b hb)
    have := hx.clean
    rw [hb, Option.getD_some] at this
    exact this.mono (by omega)
set_option maxRecDepth 100000 in
set_option maxHeartbeats 16000000 in
theorem lx_plays (w : World) (v : Value) (ls : List (List Int)) (hR : Rw w.heap.size w v ls) (hE : ErrType w) :
    Calls Tryd.prog 3 #[v] w (OkT w) := by
  have HE := Lib.hid (fun W (hW : Fr [] w W) => hE.fr hW (by simp))
  obtain ⟨A, g, o, c, rfl, hm, hF⟩ := hR
  have HF := Lib.hid hF
  clear hF hE
  go_enter Tryd.func3, Tryd.ntmps3
  go_wp2_with (first
    | (go_at_call 5; (with_reducible refine useC (lf_new w w.heap.size (Nat.le_refl _)) ?_); rintro e w0 ⟨rfl, hs, hf⟩; have HD0 := Lib.hid hs; have HF0 := Lib.hid hf; clear hs hf)
    | (go_at_call 6; (with_reducible refine useC (lx_New w0) ?_); rintro e w1 ⟨v, rfl, hv, hf⟩; obtain ⟨A1, n1, c1, A2, n2, c2, A3, n3, c3, A4, n4, c4, A5, n5, c5, rfl, hS⟩ := LxS.start HD0.out HF0.out hv hf; have HS := Lib.hid hS; clear hv hf hS HD0 HF0))
  revert HS
  generalize w1.alloc (.cells #[.slice A1 n1 c1, .slice A2 n2 c2, .slice A3 n3 c3, .slice A4 n4 c4, .slice A5 n5 c5, .int .i64 0] 27) = wA
  generalize w1.heap.size = X at *
  generalize hbb : w.heap.size = b at *
  have HB := Lib.hid hbb
  clear hbb
  intro HS
  have HR0 : Hid (∃ c, Lx.Rel (fun _ => False) Lf.new Lx.new c) := ⟨_, Lx.new_rel⟩
  go_loopw [5] (fun i wr => ∃ k : Nat, k ≤ ls.length ∧ k ≤ 80 ∧ i = .int .i64 k ∧ ∃ A1 n1 c1 A2 n2 c2 A3 n3 c3 A4 n4 c4 A5 n5 c5 d x, Hid (LxS w wr b X (.slice A1 n1 c1) (.slice A2 n2 c2) (.slice A3 n3 c3) (.slice A4 n4 c4) (.slice A5 n5 c5) d x (4 * k)) ∧ Hid (∃ c, Lx.Rel (fun _ => False) d x c)) (fun i _ => 80 - (intOf i).toNat)
  case atStart => exact ⟨0, Nat.zero_le _, Nat.zero_le _, rfl, _, _, _, _, _, _, _, _, _, _, _, _, _, _, _, _, _, HS, HR0⟩
  case round =>
    clear HS HR0
    obtain ⟨k, hk, hk6, rfl, A1, n1, c1, A2, n2, c2, A3, n3, c3, A4, n4, c4, A5, n5, c5, d, x, hS, hRel⟩ := hrel
    by_cases hin : k < ls.length ∧ k < 80
    · obtain ⟨hlt, h60⟩ := hin
      obtain ⟨rfl, hg⟩ := HF.out.1 (by omega)
      obtain ⟨u, kb, hcell0, hkb, hsl, _⟩ := HF.out.2 k hlt
      have hcell := hS.out.fr.cell hcell0 (by simp)
      obtain ⟨A', o', c', rfl, hm', hA', hc'⟩ := hsl.form
      have i0 : (0 : Int) ≤ k := by omega
      have i1 : (k : Int) < ls.length := by omega
      have i6 : (k : Int) < 80 := by omega
      clear hsl hcell0 hkb
      obtain ⟨⟨X0, X1, X2, X3, X4, X5⟩, hfz⟩ := hS.out.cells
      by_cases hl1 : (nthR ls k).length = 1
      · clear hc' hA'
        have HCX := Lib.hid (lx_Clean wr _ _ x (4 * k) hS.out.val hS.out.okx (by omega) hS.out.new)
        have HOX := Lib.hid (Lx.clean_ok4 hRel.out hS.out.okd hS.out.okx)
        have hcr : (∃ c', Lx.Rel (fun _ => False) (Lf.clean d).1 (Lx.clean x).1 c') ∧ (Lf.clean d).2 = (Lx.clean x).2 := by obtain ⟨c, hc⟩ := hRel.out; exact Lx.clean_rel hc hS.out.okd
        have hdf : ∀ W, LfD w.heap.size W b d → w.heap.size ≤ W.heap.size → Calls Tryd.prog 8 #[.pointer (some ⟨b, 0, none⟩)] W (LfAns w.heap.size b (cleanAns (Lf.clean d)) (Lf.clean d).1 W) := fun W hW hs => lf_clean W _ b d hW hS.out.okd hs
        have hod := (Lf.clean_ok hS.out.okd).1
        generalize Lf.clean d = Z1 at *
        generalize Lx.clean x = Z2 at *
        obtain ⟨d5, s5, e5⟩ := Z1
        obtain ⟨x5, s6, e6⟩ := Z2
        obtain ⟨hcr1, hcr2⟩ := hcr
        dsimp only at hcr1 hcr2 HCX HOX hdf hod
        obtain ⟨rfl, rfl⟩ := Prod.mk.inj hcr2
        have hcl : cleanAns (d5, s5, e5) = .tuple #[.int .i64 s5, errV e5] := rfl
        rw [hcl] at hdf
        have HDF := Lib.hid hdf
        have HR5 := Lib.hid hcr1
        have HOD := Lib.hid hod
        have HERR := Lib.hid (fun W (hW : Fr [] w W) => lxerr_ok W e5 (HE.out W hW))
        clear hcl hcr2 hcr1 hdf hod
        rw [hl1] at hcell
        go_wp2_with (first
          | (go_at_call 7; (with_reducible refine useC HCX.out ?_); rintro e w2 ⟨v2, rfl, hv2, hf2⟩; obtain ⟨B1, m1, q1, B2, m2, q2, B3, m3, q3, B4, m4, q4, B5, m5, q5, rfl, -⟩ := hv2.form; have HS2 := Lib.hid (hS.out.step hf2); have hs3 := hS.out.put hf2 hv2 HOX.out; unfold lxSet at hs3; obtain ⟨w3, hw3⟩ : ∃ z, z = (((((w2.setCell ⟨X, 0, none⟩ (.slice B1 m1 q1)).setCell ⟨X, 1, none⟩ (.slice B2 m2 q2)).setCell ⟨X, 2, none⟩ (.slice B3 m3 q3)).setCell ⟨X, 3, none⟩ (.slice B4 m4 q4)).setCell ⟨X, 4, none⟩ (.slice B5 m5 q5)).setCell ⟨X, 5, none⟩ (.int .i64 (x5.head : Int)) := ⟨_, rfl⟩; rw [← hw3] at hs3; have HS3 := Lib.hid hs3; have HW3 := Lib.hid hw3; clear hv2 hf2 hw3 hs3 X0 X1 X2 X3 X4 X5 hfz; obtain ⟨⟨X0, X1, X2, X3, X4, X5⟩, hfz⟩ := HS2.out.cells)
          | (rw [← HW3.out]; clear HW3 X0 X1 X2 X3 X4 X5 hfz)
          | (go_at_call 8; (with_reducible refine useC (HDF.out w3 HS3.out.disk HS3.out.fr.size) ?_); rintro e w4 ha; obtain ⟨rfl, hs⟩ := HS3.out.turn ha HOD.out; have HS4 := Lib.hid hs; clear ha hs; have HER4 := Lib.hid (HERR.out w4 HS4.out.fr))
          | (go_at_call 9; (with_reducible refine useC HER4.out ?_); rintro e w5 ⟨rfl, hf⟩; have HS5 : Hid (LxS w w5 b X (.slice B1 m1 q1) (.slice B2 m2 q2) (.slice B3 m3 q3) (.slice B4 m4 q4) (.slice B5 m5 q5) d5 x5 (4 * (k + 1))) := HS4.out.step hf; clear hf; go_wp2_with fail))
        clear HS3 HDF HOD HOX HCX HS2 hS hRel HERR HER4 HS4
        go_loopw [13] (fun i wr => ∃ p : Nat, p ≤ 8 ∧ i = .int .i64 p ∧ Hid (LxS w wr b X (.slice B1 m1 q1) (.slice B2 m2 q2) (.slice B3 m3 q3) (.slice B4 m4 q4) (.slice B5 m5 q5) d5 x5 (4 * (k + 1)))) (fun i _ => 8 - (intOf i).toNat)
        case atStart => exact ⟨0, Nat.zero_le _, rfl, HS5⟩
        case round =>
          clear HS5
          obtain ⟨p, hp, rfl, hT⟩ := hrel
          by_cases hp8 : p < 8
          · have p1 : (p : Int) < 8 := by omega
            have p0 : (0 : Int) ≤ p := by omega
            have hra : readAns d5 p = .tuple #[.int .i64 (Lf.val d5 p), .nilIface] := by unfold readAns; rw [if_pos (by omega), Int.toNat_natCast]
            have hrd : Lf.val d5 p = Lx.read x5 p := by obtain ⟨c, hc⟩ := HR5.out; exact Lx.read_eq hc hp8
            have HRA := Lib.hid (lf_read wr w.heap.size b d5 p hT.out.disk hT.out.okd)
            rw [hra, hrd] at HRA
            have HLV := Lib.hid (fun W (hW : Fr [] wr W) => lx_Read W _ _ x5 p (hT.out.step hW).val hT.out.okx.lv)
            clear hra hrd
            generalize Lx.read x5 p = y at *
            go_wp2_with (first
              | (go_at_call 13; (with_reducible refine useC HRA.out ?_); rintro e w6 ⟨rfl, hf⟩; have HF6 := Lib.hid hf; have HS6 := Lib.hid (hT.out.step hf); clear hf; obtain ⟨⟨X0, X1, X2, X3, X4, X5⟩, hfz⟩ := HS6.out.cells)
              | (go_at_call 14; (with_reducible refine useC (HLV.out w6 HF6.out) ?_); rintro e w7 ⟨rfl, hf⟩; have HS7 := Lib.hid (HS6.out.step hf); clear hf))
            go_roundw
            case rel => exact ⟨p + 1, by omega, by go_num, HS7⟩
            case measure => (simp [intOf]; try omega)
          · have p1 : ¬ (p : Int) < 8 := by omega
            clear hp8 hp
            go_wp2_with fail
            have HT := Lib.hid hT.out
            clear hT
            obtain ⟨wB, hwB⟩ : ∃ z, z = wr := ⟨_, rfl⟩
            subst hwB
            go_loopw [16] (fun i wr => ∃ j : Nat, j ≤ 6 ∧ i = .int .i64 j ∧ Hid (LxS w wr b X (.slice B1 m1 q1) (.slice B2 m2 q2) (.slice B3 m3 q3) (.slice B4 m4 q4) (.slice B5 m5 q5) d5 x5 (4 * (k + 1)))) (fun i _ => 6 - (intOf i).toNat)
            case atStart => exact ⟨0, Nat.zero_le _, rfl, HT⟩
            case round =>
              clear HT
              obtain ⟨j, hj, rfl, hT⟩ := hrel
              by_cases hj6 : j < 6
              · have j1 : (j : Int) < 6 := by omega
                have j0 : (0 : Int) ≤ j := by omega
                obtain ⟨n1', hn1⟩ : ∃ n, (Lf.seg d5 j).length = n := ⟨_, rfl⟩
                obtain ⟨n2', hn2⟩ : ∃ n, (Lf.live d5 j).length = n := ⟨_, rfl⟩
                have hmn : nth x5.many j = (n1' : Int) := by obtain ⟨c, hc⟩ := HR5.out; rw [hc.many j hj6, hn1]
                have hlv : (Lx.live x5 j).length = n2' := by obtain ⟨c, hc⟩ := HR5.out; rw [← hn2, Lx.live_len hc hj6]
                have hsa : segAns d5 j = .tuple #[.int .i64 (n1' : Int), .int .i64 (n2' : Int)] := by unfold segAns; rw [if_pos (by omega), Int.toNat_natCast, hn1, hn2]
                have HSA := Lib.hid (lf_segment wr w.heap.size b d5 j hT.out.disk hT.out.okd)
                rw [hsa] at HSA
                have HL2 := Lib.hid hlv
                obtain ⟨E5, g5, o5, r5, e5, -, hA5, hc5⟩ := hT.out.rows.re.form
                rw [hT.out.okx.lm] at e5 hA5 hc5
                obtain rfl := hA5 (by decide)
                injection e5 with e51 e52 e53
                subst e51 e52 e53
                have HC5 := Lib.hid (fun W (hW : Fr [] wr W) => hc5 W hW j hj6)
                rw [hmn] at HC5
                have hle := hT.out.okx.le
                have HLV := Lib.hid (fun W (hW : Fr [] wr W) => lx_Live W _ _ x5 (j : Int) (hT.out.step hW).val hT.out.okx.ls (by omega))
                clear hsa hmn hlv hn1 hn2 hA5 hc5 hle
                go_wp2_with (first
                  | (go_at_call 15; (with_reducible refine useC HSA.out ?_); rintro e w6 ⟨rfl, hf⟩; have HF6 := Lib.hid hf; have HS6 := Lib.hid (hT.out.step hf); clear hf; obtain ⟨⟨X0, X1, X2, X3, X4, X5⟩, hfz⟩ := HS6.out.cells; have hq5 := HC5.out w6 HF6.out)
                  | (go_at_call 16; (with_reducible refine useC (HLV.out w6 HF6.out) ?_); rintro e w7 hn; obtain ⟨L7, q7, he, hf, -⟩ := newrow_len hn; rw [List.length_map, HL2.out] at he; subst he; have HS7 := Lib.hid (HS6.out.step hf); clear hf hn))
                go_roundw
                case rel => exact ⟨j + 1, by omega, by go_num, HS7⟩
                case measure => (simp [intOf]; try omega)
              · have j1 : ¬ (j : Int) < 6 := by omega
                clear hj6 hj
                have HSD := Lib.hid (hT.out.step (Fr.refl [] wr).drew)
                have HHD := Lib.hid (lf_head wr.drew w.heap.size b d5 HSD.out.disk HSD.out.okd)
                have hhd : x5.head = d5.head := by obtain ⟨c, hc⟩ := HR5.out; exact hc.head
                rw [← hhd] at HHD
                clear hhd
                have HQ := Lib.hid (fun W (hW : Fr [] wr W) => (hT.out.step hW).cells)
                go_wp2_with fail
                (refine wp_region_mix (Fr [] wr ·) 4 [(true, 0), (true, 2), (true, 3), (false, 1)] (by kernel_rfl) (by kernel_rfl) ((Fr.refl _ _).drew) ?_; simp only [pickOps, List.map_cons, List.map_nil, List.getD_cons_zero, List.getD_cons_succ, List.drop_succ_cons, List.drop_zero])
                (iterate 3 (first | (refine wpMix_take (v := ?_) (by rfl) ?_ ?_; rotate_left; (focus (intro W hW; obtain ⟨⟨X0, X1, X2, X3, X4, X5⟩, hfz⟩ := HQ.out W hW; go_simp; (try with_reducible rfl); done)); try simp only [Act.put, List.setIfInBounds_toArray, List.set_cons_zero, List.set_cons_succ]) | (refine wpMix_leave (by rfl) ?_; try simp only [Act.put, List.setIfInBounds_toArray, List.set_cons_zero, List.set_cons_succ])))
                refine wpMix_walk ?_
                go_wp2_with (go_at_call 17; (with_reducible refine useC HHD.out ?_); rintro e w9 ⟨rfl, rfl⟩)
                refine MixQ.mk ((Fr.refl _ _).drew) ?_
                refine wpMix_nil ?_
                go_wp2
                go_roundw
                case rel => exact ⟨k + 1, by omega, by omega, by go_num, _, _, _, _, _, _, _, _, _, _, _, _, _, _, _, _, _, HSD, HR5⟩
                case measure => (simp [intOf]; try omega)
      · by_cases hl2 : (nthR ls k).length = 2
        · have b1 : (((nthR ls k).length : Int) == 1) = false := beq_eq_false_iff_ne.2 (by omega)
          obtain rfl := hA' (by omega)
          have c0 := hc' 0 (by omega)
          have c1' := hc' 1 (by omega)
          rw [Nat.add_zero] at c0
          have HC0 := Lib.hid (fun W (hW : Fr [] w W) => And.intro (hW.cell c0 (by simp)) (hW.cell c1' (by simp)))
          rw [hl2] at hcell b1
          clear hc' hA' c0 c1'
          generalize nth (nthR ls k) 0 = z0 at *
          generalize nth (nthR ls k) 1 = z1 at *
          obtain ⟨cz0, cz1⟩ := HC0.out wr hS.out.fr
          have HOW := Lib.hid (Lf.write_ok hS.out.okd z0 z1).1
          by_cases hz : 0 ≤ z0 ∧ z0 ≤ 7
          · have e1 := decide_eq_true hz
            by_cases hz' : 0 ≤ z1 ∧ z1 ≤ 1000
            · have e2 := decide_eq_true hz'
              have hwr : (∃ c', Lx.Rel (fun _ => False) (Lf.write d z0 z1).1 (Lx.down x z0 z1).1 c') ∧ (Lf.write d z0 z1).2 = if (Lx.down x z0 z1).2 then 0 else 4 := by obtain ⟨c, hc⟩ := hRel.out; exact Lx.write_rel hc hS.out.okd z0 z1 ⟨hz, hz'⟩
              have HSD := Lib.hid (hS.out.step (Fr.refl [] wr).drew)
              have HCX := Lib.hid (fun W (G : Nat → Prop) (hv : LxV G W (.agg #[.slice A1 n1 c1, .slice A2 n2 c2, .slice A3 n3 c3, .slice A4 n4 c4, .slice A5 n5 c5, .int .i64 (x.head : Int)]) x) (hG : ∀ k, W.heap.size ≤ k → G k) => lx_Down W G _ x (4 * k) z0 z1 hv hS.out.okx (by omega) hG)
              have HOY := Lib.hid (hS.out.okx.down z0 z1)
              have hdx : (Lx.down x z0 z1).2 = false → (Lx.down x z0 z1).1 = x := by unfold Lx.down; split <;> simp
              have hwr2 := hwr.2
              have hrx : (Lx.down x z0 z1).2 = false → ∃ c', Lx.Rel (fun _ => False) (Lf.write d z0 z1).1 x c' := fun h => by have := hwr.1; rw [hdx h] at this; exact this
              have HRW := Lib.hid hwr.1
              have HRX := Lib.hid hrx
              have HQ := Lib.hid (fun W (hW : Fr [] wr W) => (hS.out.step hW).cells)
              clear hdx hwr hrx hz hz'
              generalize Lx.down x z0 z1 = r at *
              obtain ⟨y2, ok⟩ := r
              dsimp only at HOY hwr2 HRW HRX
              have hwe : errV (Lf.write d z0 z1).2 = if ok = true then errV 0 else errV 4 := by rw [hwr2]; split <;> rfl
              have HWC := Lib.hid hwe
              clear hwe hwr2
              go_wp2_with (first
                | (go_at_call 10; (with_reducible refine useC (in3_is z0 0 7 true _ e1) ?_); rintro e wr ⟨rfl, rfl⟩)
                | (go_at_call 10; (with_reducible refine useC (in3_is z1 0 1000 true _ e2) ?_); rintro e wr ⟨rfl, rfl⟩; go_wp2_with fail))
              (refine wp_region_fork (fun W => LxX W X (.slice A1 n1 c1) (.slice A2 n2 c2) (.slice A3 n3 c3) (.slice A4 n4 c4) (.slice A5 n5 c5) x.head ∧ Fr [] w W) 14 (Plan.take 0 (.take 1 (.take 2 (.take 3 (.take 4 (.take 5 (.take 6 (.both 7 (.take 8 (.take 9 (.take 10 (.walk 11 (.walk 12 (.walk 13 .stop)))))) 11 (.walk 7 (.take 8 (.take 9 (.take 10 (.walk 12 (.walk 13 .stop)))))))))))))) (by kernel_rfl) (by kernel_rfl) (And.intro HSD.out.box HSD.out.fr) ?_; simp only [pickPlan, List.getD_cons_zero, List.getD_cons_succ, List.drop_succ_cons, List.drop_zero])
              (iterate 7 (first | (refine wpPlan_take (v := ?_) (by rfl) ?_ ?_; rotate_left; (focus (intro W hW; obtain ⟨⟨y0, y1, y2', y3, y4, y5⟩, cz0, cz1⟩ := And.intro (LxX.cells hW.1) (HC0.out W hW.2); go_simp; (try with_reducible rfl); done)); try simp only [Act.put, List.setIfInBounds_toArray, List.set_cons_zero, List.set_cons_succ]) | (refine wpPlan_leave (by rfl) ?_; try simp only [Act.put, List.setIfInBounds_toArray, List.set_cons_zero, List.set_cons_succ])))
              clear X0 X1 X2 X3 X4 X5 hfz cz0 cz1 e1 e2 HQ
              revert HSD
              generalize wr.drew = wD
              intro HSD
              clear hcell
              refine wpPlan_both ?_ ?_
              · skip
                go_wp2_with (go_at_call 11; (with_reducible refine useC (HCX.out wD _ HSD.out.val HSD.out.new) ?_); rintro e w2 ⟨v2, rfl, hv2, hf2⟩; obtain ⟨B1, m1, q1, B2, m2, q2, B3, m3, q3, B4, m4, q4, B5, m5, q5, rfl, -⟩ := hv2.form; have HS2 := Lib.hid (HSD.out.step hf2); have HV2 := Lib.hid hv2; have HF2 := Lib.hid hf2; clear hv2 hf2)

                refine ForkQ.mk (⟨HS2.out.box, HS2.out.fr⟩) ?_
                (iterate 3 (first | (refine wpPlan_take (v := ?_) (by rfl) ?_ ?_; rotate_left; (focus (intro W hW; skip; go_simp; (try with_reducible rfl); done)); try simp only [Act.put, List.setIfInBounds_toArray, List.set_cons_zero, List.set_cons_succ]) | (refine wpPlan_leave (by rfl) ?_; try simp only [Act.put, List.setIfInBounds_toArray, List.set_cons_zero, List.set_cons_succ])))
                refine wpPlan_walk ?_
                go_wp2_with fail
                have HXF := Lib.hid (LxF.late HSD.out HF2.out HV2.out)
                clear HV2 HS2 HF2 HSD HCX
                revert HXF
                generalize w2.alloc (.cells #[.slice none 0 0, .slice none 0 0, .slice none 0 0, .slice none 0 0, .slice none 0 0, .int .i64 0] 27) = wF
                generalize w2.heap.size = Y
                intro HXF
                refine ForkQ.mk (⟨HXF.out.s.box, HXF.out.s.fr⟩) ?_
                obtain ⟨hy7, hs7, hv7⟩ := HXF.out.lay
                have hsX := hs7.put (Fr.refl _ _) hv7 HOY.out
                obtain ⟨⟨y0, y1, y2', y3, y4, y5⟩, hfy⟩ : (wF.cell? ⟨Y, 0, none⟩ = some (.slice none 0 0) ∧ wF.cell? ⟨Y, 1, none⟩ = some (.slice none 0 0) ∧ wF.cell? ⟨Y, 2, none⟩ = some (.slice none 0 0) ∧ wF.cell? ⟨Y, 3, none⟩ = some (.slice none 0 0) ∧ wF.cell? ⟨Y, 4, none⟩ = some (.slice none 0 0) ∧ wF.cell? ⟨Y, 5, none⟩ = some (.int .i64 0)) ∧ ∀ i, wF.frozen? ⟨Y, i, none⟩ = false := ⟨HXF.out.y.cells, fun i => free_block HXF.out.y i none⟩
                unfold lxSet at hy7 hs7 hv7 hsX
                obtain ⟨wY, hwY⟩ : ∃ z, z = (((((wF.setCell ⟨Y, 0, none⟩ (.slice B1 m1 q1)).setCell ⟨Y, 1, none⟩ (.slice B2 m2 q2)).setCell ⟨Y, 2, none⟩ (.slice B3 m3 q3)).setCell ⟨Y, 3, none⟩ (.slice B4 m4 q4)).setCell ⟨Y, 4, none⟩ (.slice B5 m5 q5)).setCell ⟨Y, 5, none⟩ (.int .i64 (y2.head : Int)) := ⟨_, rfl⟩
                rw [← hwY] at hy7 hs7 hv7 hsX
                obtain ⟨wX, hwX⟩ : ∃ z, z = (((((wY.setCell ⟨X, 0, none⟩ (.slice B1 m1 q1)).setCell ⟨X, 1, none⟩ (.slice B2 m2 q2)).setCell ⟨X, 2, none⟩ (.slice B3 m3 q3)).setCell ⟨X, 3, none⟩ (.slice B4 m4 q4)).setCell ⟨X, 4, none⟩ (.slice B5 m5 q5)).setCell ⟨X, 5, none⟩ (.int .i64 (y2.head : Int)) := ⟨_, rfl⟩
                rw [← hwX] at hsX
                have HWY := Lib.hid hwY
                have HWX := Lib.hid hwX
                have HY7 := Lib.hid hy7
                have HS7 := Lib.hid hs7
                have HSX := Lib.hid hsX
                clear hwY hwX hy7 hs7 hv7 hsX HXF
                refine wpPlan_walk ?_
                go_wp2_with fail
                rw [← HWY.out]
                clear HWY y0 y1 y2' y3 y4 y5 hfy
                refine ForkQ.mk (⟨HS7.out.box, HS7.out.fr⟩) ?_
                refine wpPlan_walk ?_
                go_wp2
                refine ForkQ.mk (⟨HS7.out.box, HS7.out.fr⟩) ?_
                refine wpPlan_nil ?_
                obtain ⟨⟨X0, X1, X2, X3, X4, X5⟩, hfz⟩ := HS7.out.cells
                obtain ⟨y0, y1, y2', y3, y4, y5⟩ := HY7.out.cells
                by_cases hok : ok = true
                · subst hok
                  go_wp2_with (rw [← HWX.out]; clear HWX X0 X1 X2 X3 X4 X5 hfz y0 y1 y2' y3 y4 y5)
                  clear HS7 HY7
                  have HSW := HSX
                  have HWE : Hid (errV (Lf.write d z0 z1).2 = errV 0) := (by first | exact HWC.out.trans (if_pos rfl) | exact HWC.out.trans (if_pos trivial))
                  have HERR := Lib.hid (fun W (hW : Fr [] w W) => lxerr_ok W 0 (HE.out W hW))
                  clear HSX HWC
                  obtain ⟨wW, hwW⟩ : ∃ z, z = wX := ⟨_, rfl⟩
                  subst hwW
                  have HSX := Lib.hid (HSW.out.step (Fr.refl [] wW).drew)
                  have hwr := lf_write wW.drew w.heap.size b d z0 z1 HSX.out.disk HSX.out.okd HSX.out.fr.size
                  rw [HWE.out] at hwr
                  have HWR := Lib.hid hwr
                  clear hwr
                  have cz0 := (HC0.out wW HSW.out.fr).1
                  have cz1 := (HC0.out wW HSW.out.fr).2
                  go_wp2_with fail
                  (refine wp_region_mix (Fr [] w ·) 9 [(true, 0), (true, 1), (true, 2), (true, 3), (true, 4), (true, 5), (true, 6), (true, 8), (false, 7)] (by kernel_rfl) (by kernel_rfl) (HSX.out.fr) ?_; simp only [pickOps, List.map_cons, List.map_nil, List.getD_cons_zero, List.getD_cons_succ, List.drop_succ_cons, List.drop_zero])
                  (iterate 8 (first | (refine wpMix_take (v := ?_) (by rfl) ?_ ?_; rotate_left; (focus (intro W hW; obtain ⟨cz0, cz1⟩ := HC0.out W hW; go_simp; (try with_reducible rfl); done)); try simp only [Act.put, List.setIfInBounds_toArray, List.set_cons_zero, List.set_cons_succ]) | (refine wpMix_leave (by rfl) ?_; try simp only [Act.put, List.setIfInBounds_toArray, List.set_cons_zero, List.set_cons_succ])))
                  refine wpMix_walk ?_
                  go_wp2_with (go_at_call 12; (with_reducible refine useC HWR.out ?_); rintro e w6 ha; obtain ⟨rfl, hs⟩ := HSX.out.turn ha HOW.out; have HS6 := Lib.hid hs; clear ha hs; have HER6 := Lib.hid (HERR.out w6 HS6.out.fr))
                  refine MixQ.mk (HS6.out.fr) ?_
                  refine wpMix_nil ?_
                  go_wp2_with (go_at_call 9; (with_reducible refine useC HER6.out ?_); rintro e w7 ⟨rfl, hf⟩; have HS7 := Lib.hid (HS6.out.step hf); clear hf)
                  clear HS6 HER6 HERR HWR HWE HSX HSW HC0 cz0 cz1
                  obtain ⟨d5, hd5⟩ : ∃ d5, (Lf.write d z0 z1).1 = d5 := ⟨_, rfl⟩
                  rw [hd5] at HS7 HRW
                  obtain ⟨w5, hw5⟩ : ∃ z, z = w7 := ⟨_, rfl⟩
                  subst hw5
                  clear hd5 HOW
                  have HS5 : Hid (LxS w w5 b X (.slice B1 m1 q1) (.slice B2 m2 q2) (.slice B3 m3 q3) (.slice B4 m4 q4) (.slice B5 m5 q5) d5 y2 (4 * (k + 1))) := HS7.out.mono (by omega)
                  clear HS7
                  obtain ⟨x5, hx5⟩ : ∃ x5, y2 = x5 := ⟨_, rfl⟩
                  rw [hx5] at HS5 HRW
                  have HR5 := HRW
                  clear HRW hx5
                  go_loopw [13] (fun i wr => ∃ p : Nat, p ≤ 8 ∧ i = .int .i64 p ∧ Hid (LxS w wr b X (.slice B1 m1 q1) (.slice B2 m2 q2) (.slice B3 m3 q3) (.slice B4 m4 q4) (.slice B5 m5 q5) d5 x5 (4 * (k + 1)))) (fun i _ => 8 - (intOf i).toNat)
                  case atStart => exact ⟨0, Nat.zero_le _, rfl, HS5⟩
                  case round =>
                    clear HS5
                    obtain ⟨p, hp, rfl, hT⟩ := hrel
                    by_cases hp8 : p < 8
                    · have p1 : (p : Int) < 8 := by omega
                      have p0 : (0 : Int) ≤ p := by omega
                      have hra : readAns d5 p = .tuple #[.int .i64 (Lf.val d5 p), .nilIface] := by unfold readAns; rw [if_pos (by omega), Int.toNat_natCast]
                      have hrd : Lf.val d5 p = Lx.read x5 p := by obtain ⟨c, hc⟩ := HR5.out; exact Lx.read_eq hc hp8
                      have HRA := Lib.hid (lf_read wr w.heap.size b d5 p hT.out.disk hT.out.okd)
                      rw [hra, hrd] at HRA
                      have HLV := Lib.hid (fun W (hW : Fr [] wr W) => lx_Read W _ _ x5 p (hT.out.step hW).val hT.out.okx.lv)
                      clear hra hrd
                      generalize Lx.read x5 p = y at *
                      go_wp2_with (first
                        | (go_at_call 13; (with_reducible refine useC HRA.out ?_); rintro e w6 ⟨rfl, hf⟩; have HF6 := Lib.hid hf; have HS6 := Lib.hid (hT.out.step hf); clear hf; obtain ⟨⟨X0, X1, X2, X3, X4, X5⟩, hfz⟩ := HS6.out.cells)
                        | (go_at_call 14; (with_reducible refine useC (HLV.out w6 HF6.out) ?_); rintro e w7 ⟨rfl, hf⟩; have HS7 := Lib.hid (HS6.out.step hf); clear hf))
                      go_roundw
                      case rel => exact ⟨p + 1, by omega, by go_num, HS7⟩
                      case measure => (simp [intOf]; try omega)
                    · have p1 : ¬ (p : Int) < 8 := by omega
                      clear hp8 hp
                      go_wp2_with fail
                      have HT := Lib.hid hT.out
                      clear hT
                      obtain ⟨wB, hwB⟩ : ∃ z, z = wr := ⟨_, rfl⟩
                      subst hwB
                      go_loopw [16] (fun i wr => ∃ j : Nat, j ≤ 6 ∧ i = .int .i64 j ∧ Hid (LxS w wr b X (.slice B1 m1 q1) (.slice B2 m2 q2) (.slice B3 m3 q3) (.slice B4 m4 q4) (.slice B5 m5 q5) d5 x5 (4 * (k + 1)))) (fun i _ => 6 - (intOf i).toNat)
                      case atStart => exact ⟨0, Nat.zero_le _, rfl, HT⟩
                      case round =>
                        clear HT
                        obtain ⟨j, hj, rfl, hT⟩ := hrel
                        by_cases hj6 : j < 6
                        · have j1 : (j : Int) < 6 := by omega
                          have j0 : (0 : Int) ≤ j := by omega
                          obtain ⟨n1', hn1⟩ : ∃ n, (Lf.seg d5 j).length = n := ⟨_, rfl⟩
                          obtain ⟨n2', hn2⟩ : ∃ n, (Lf.live d5 j).length = n := ⟨_, rfl⟩
                          have hmn : nth x5.many j = (n1' : Int) := by obtain ⟨c, hc⟩ := HR5.out; rw [hc.many j hj6, hn1]
                          have hlv : (Lx.live x5 j).length = n2' := by obtain ⟨c, hc⟩ := HR5.out; rw [← hn2, Lx.live_len hc hj6]
                          have hsa : segAns d5 j = .tuple #[.int .i64 (n1' : Int), .int .i64 (n2' : Int)] := by unfold segAns; rw [if_pos (by omega), Int.toNat_natCast, hn1, hn2]
                          have HSA := Lib.hid (lf_segment wr w.heap.size b d5 j hT.out.disk hT.out.okd)
                          rw [hsa] at HSA
                          have HL2 := Lib.hid hlv
                          obtain ⟨E5, g5, o5, r5, e5, -, hA5, hc5⟩ := hT.out.rows.re.form
                          rw [hT.out.okx.lm] at e5 hA5 hc5
                          obtain rfl := hA5 (by decide)
                          injection e5 with e51 e52 e53
                          subst e51 e52 e53
                          have HC5 := Lib.hid (fun W (hW : Fr [] wr W) => hc5 W hW j hj6)
                          rw [hmn] at HC5
                          have hle := hT.out.okx.le
                          have HLV := Lib.hid (fun W (hW : Fr [] wr W) => lx_Live W _ _ x5 (j : Int) (hT.out.step hW).val hT.out.okx.ls (by omega))
                          clear hsa hmn hlv hn1 hn2 hA5 hc5 hle
                          go_wp2_with (first
                            | (go_at_call 15; (with_reducible refine useC HSA.out ?_); rintro e w6 ⟨rfl, hf⟩; have HF6 := Lib.hid hf; have HS6 := Lib.hid (hT.out.step hf); clear hf; obtain ⟨⟨X0, X1, X2, X3, X4, X5⟩, hfz⟩ := HS6.out.cells; have hq5 := HC5.out w6 HF6.out)
                            | (go_at_call 16; (with_reducible refine useC (HLV.out w6 HF6.out) ?_); rintro e w7 hn; obtain ⟨L7, q7, he, hf, -⟩ := newrow_len hn; rw [List.length_map, HL2.out] at he; subst he; have HS7 := Lib.hid (HS6.out.step hf); clear hf hn))
                          go_roundw
                          case rel => exact ⟨j + 1, by omega, by go_num, HS7⟩
                          case measure => (simp [intOf]; try omega)
                        · have j1 : ¬ (j : Int) < 6 := by omega
                          clear hj6 hj
                          have HSD := Lib.hid (hT.out.step (Fr.refl [] wr).drew)
                          have HHD := Lib.hid (lf_head wr.drew w.heap.size b d5 HSD.out.disk HSD.out.okd)
                          have hhd : x5.head = d5.head := by obtain ⟨c, hc⟩ := HR5.out; exact hc.head
                          rw [← hhd] at HHD
                          clear hhd
                          have HQ := Lib.hid (fun W (hW : Fr [] wr W) => (hT.out.step hW).cells)
                          go_wp2_with fail
                          (refine wp_region_mix (Fr [] wr ·) 4 [(true, 0), (true, 2), (true, 3), (false, 1)] (by kernel_rfl) (by kernel_rfl) ((Fr.refl _ _).drew) ?_; simp only [pickOps, List.map_cons, List.map_nil, List.getD_cons_zero, List.getD_cons_succ, List.drop_succ_cons, List.drop_zero])
                          (iterate 3 (first | (refine wpMix_take (v := ?_) (by rfl) ?_ ?_; rotate_left; (focus (intro W hW; obtain ⟨⟨X0, X1, X2, X3, X4, X5⟩, hfz⟩ := HQ.out W hW; go_simp; (try with_reducible rfl); done)); try simp only [Act.put, List.setIfInBounds_toArray, List.set_cons_zero, List.set_cons_succ]) | (refine wpMix_leave (by rfl) ?_; try simp only [Act.put, List.setIfInBounds_toArray, List.set_cons_zero, List.set_cons_succ])))
                          refine wpMix_walk ?_
                          go_wp2_with (go_at_call 17; (with_reducible refine useC HHD.out ?_); rintro e w9 ⟨rfl, rfl⟩)
                          refine MixQ.mk ((Fr.refl _ _).drew) ?_
                          refine wpMix_nil ?_
                          go_wp2
                          go_roundw
                          case rel => exact ⟨k + 1, by omega, by omega, by go_num, _, _, _, _, _, _, _, _, _, _, _, _, _, _, _, _, _, HSD, HR5⟩
                          case measure => (simp [intOf]; try omega)
                · obtain rfl : ok = false := by simpa using hok
                  go_wp2_with fail
                  clear HWX HSX HY7 X0 X1 X2 X3 X4 X5 hfz y0 y1 y2' y3 y4 y5 HRW
                  have HSW := HS7.out.mono (show 4 * k ≤ 4 * k + 1 by omega)
                  have HSW := Lib.hid HSW
                  have HWE : Hid (errV (Lf.write d z0 z1).2 = errV 4) := HWC.out.trans (if_neg (by simp))
                  have HERR := Lib.hid (fun W (hW : Fr [] w W) => lxerr_ok W 4 (HE.out W hW))
                  have HRW : Hid (∃ c', Lx.Rel (fun _ => False) (Lf.write d z0 z1).1 x c') := (by first | exact HRX.out rfl | exact HRX.out trivial)
                  clear HS7 HWC
                  obtain ⟨wW, hwW⟩ : ∃ z, z = wY := ⟨_, rfl⟩
                  subst hwW
                  have HSX := Lib.hid (HSW.out.step (Fr.refl [] wW).drew)
                  have hwr := lf_write wW.drew w.heap.size b d z0 z1 HSX.out.disk HSX.out.okd HSX.out.fr.size
                  rw [HWE.out] at hwr
                  have HWR := Lib.hid hwr
                  clear hwr
                  have cz0 := (HC0.out wW HSW.out.fr).1
                  have cz1 := (HC0.out wW HSW.out.fr).2
                  go_wp2_with fail
                  (refine wp_region_mix (Fr [] w ·) 9 [(true, 0), (true, 1), (true, 2), (true, 3), (true, 4), (true, 5), (true, 6), (true, 8), (false, 7)] (by kernel_rfl) (by kernel_rfl) (HSX.out.fr) ?_; simp only [pickOps, List.map_cons, List.map_nil, List.getD_cons_zero, List.getD_cons_succ, List.drop_succ_cons, List.drop_zero])
                  (iterate 8 (first | (refine wpMix_take (v := ?_) (by rfl) ?_ ?_; rotate_left; (focus (intro W hW; obtain ⟨cz0, cz1⟩ := HC0.out W hW; go_simp; (try with_reducible rfl); done)); try simp only [Act.put, List.setIfInBounds_toArray, List.set_cons_zero, List.set_cons_succ]) | (refine wpMix_leave (by rfl) ?_; try simp only [Act.put, List.setIfInBounds_toArray, List.set_cons_zero, List.set_cons_succ])))
                  refine wpMix_walk ?_
                  go_wp2_with (go_at_call 12; (with_reducible refine useC HWR.out ?_); rintro e w6 ha; obtain ⟨rfl, hs⟩ := HSX.out.turn ha HOW.out; have HS6 := Lib.hid hs; clear ha hs; have HER6 := Lib.hid (HERR.out w6 HS6.out.fr))
                  refine MixQ.mk (HS6.out.fr) ?_
                  refine wpMix_nil ?_
                  go_wp2_with (go_at_call 9; (with_reducible refine useC HER6.out ?_); rintro e w7 ⟨rfl, hf⟩; have HS7 := Lib.hid (HS6.out.step hf); clear hf)
                  clear HS6 HER6 HERR HWR HWE HSX HSW HC0 cz0 cz1
                  obtain ⟨d5, hd5⟩ : ∃ d5, (Lf.write d z0 z1).1 = d5 := ⟨_, rfl⟩
                  rw [hd5] at HS7 HRW
                  obtain ⟨w5, hw5⟩ : ∃ z, z = w7 := ⟨_, rfl⟩
                  subst hw5
                  clear hd5 HOW
                  have HS5 : Hid (LxS w w5 b X (.slice A1 n1 c1) (.slice A2 n2 c2) (.slice A3 n3 c3) (.slice A4 n4 c4) (.slice A5 n5 c5) d5 x (4 * (k + 1))) := HS7.out.mono (by omega)
                  clear HS7
                  obtain ⟨x5, hx5⟩ : ∃ x5, x = x5 := ⟨_, rfl⟩
                  rw [hx5] at HS5 HRW
                  have HR5 := HRW
                  clear HRW hx5
                  go_loopw [13] (fun i wr => ∃ p : Nat, p ≤ 8 ∧ i = .int .i64 p ∧ Hid (LxS w wr b X (.slice A1 n1 c1) (.slice A2 n2 c2) (.slice A3 n3 c3) (.slice A4 n4 c4) (.slice A5 n5 c5) d5 x5 (4 * (k + 1)))) (fun i _ => 8 - (intOf i).toNat)
                  case atStart => exact ⟨0, Nat.zero_le _, rfl, HS5⟩
                  case round =>
                    clear HS5
                    obtain ⟨p, hp, rfl, hT⟩ := hrel
                    by_cases hp8 : p < 8
                    · have p1 : (p : Int) < 8 := by omega
                      have p0 : (0 : Int) ≤ p := by omega
                      have hra : readAns d5 p = .tuple #[.int .i64 (Lf.val d5 p), .nilIface] := by unfold readAns; rw [if_pos (by omega), Int.toNat_natCast]
                      have hrd : Lf.val d5 p = Lx.read x5 p := by obtain ⟨c, hc⟩ := HR5.out; exact Lx.read_eq hc hp8
                      have HRA := Lib.hid (lf_read wr w.heap.size b d5 p hT.out.disk hT.out.okd)
                      rw [hra, hrd] at HRA
                      have HLV := Lib.hid (fun W (hW : Fr [] wr W) => lx_Read W _ _ x5 p (hT.out.step hW).val hT.out.okx.lv)
                      clear hra hrd
                      generalize Lx.read x5 p = y at *
                      go_wp2_with (first
                        | (go_at_call 13; (with_reducible refine useC HRA.out ?_); rintro e w6 ⟨rfl, hf⟩; have HF6 := Lib.hid hf; have HS6 := Lib.hid (hT.out.step hf); clear hf; obtain ⟨⟨X0, X1, X2, X3, X4, X5⟩, hfz⟩ := HS6.out.cells)
                        | (go_at_call 14; (with_reducible refine useC (HLV.out w6 HF6.out) ?_); rintro e w7 ⟨rfl, hf⟩; have HS7 := Lib.hid (HS6.out.step hf); clear hf))
                      go_roundw
                      case rel => exact ⟨p + 1, by omega, by go_num, HS7⟩
                      case measure => (simp [intOf]; try omega)
                    · have p1 : ¬ (p : Int) < 8 := by omega
                      clear hp8 hp
                      go_wp2_with fail
                      have HT := Lib.hid hT.out
                      clear hT
                      obtain ⟨wB, hwB⟩ : ∃ z, z = wr := ⟨_, rfl⟩
                      subst hwB
                      go_loopw [16] (fun i wr => ∃ j : Nat, j ≤ 6 ∧ i = .int .i64 j ∧ Hid (LxS w wr b X (.slice A1 n1 c1) (.slice A2 n2 c2) (.slice A3 n3 c3) (.slice A4 n4 c4) (.slice A5 n5 c5) d5 x5 (4 * (k + 1)))) (fun i _ => 6 - (intOf i).toNat)
                      case atStart => exact ⟨0, Nat.zero_le _, rfl, HT⟩
                      case round =>
                        clear HT
                        obtain ⟨j, hj, rfl, hT⟩ := hrel
                        by_cases hj6 : j < 6
                        · have j1 : (j : Int) < 6 := by omega
                          have j0 : (0 : Int) ≤ j := by omega
                          obtain ⟨n1', hn1⟩ : ∃ n, (Lf.seg d5 j).length = n := ⟨_, rfl⟩
                          obtain ⟨n2', hn2⟩ : ∃ n, (Lf.live d5 j).length = n := ⟨_, rfl⟩
                          have hmn : nth x5.many j = (n1' : Int) := by obtain ⟨c, hc⟩ := HR5.out; rw [hc.many j hj6, hn1]
                          have hlv : (Lx.live x5 j).length = n2' := by obtain ⟨c, hc⟩ := HR5.out; rw [← hn2, Lx.live_len hc hj6]
                          have hsa : segAns d5 j = .tuple #[.int .i64 (n1' : Int), .int .i64 (n2' : Int)] := by unfold segAns; rw [if_pos (by omega), Int.toNat_natCast, hn1, hn2]
                          have HSA := Lib.hid (lf_segment wr w.heap.size b d5 j hT.out.disk hT.out.okd)
                          rw [hsa] at HSA
                          have HL2 := Lib.hid hlv
                          obtain ⟨E5, g5, o5, r5, e5, -, hA5, hc5⟩ := hT.out.rows.re.form
                          rw [hT.out.okx.lm] at e5 hA5 hc5
                          obtain rfl := hA5 (by decide)
                          injection e5 with e51 e52 e53
                          subst e51 e52 e53
                          have HC5 := Lib.hid (fun W (hW : Fr [] wr W) => hc5 W hW j hj6)
                          rw [hmn] at HC5
                          have hle := hT.out.okx.le
                          have HLV := Lib.hid (fun W (hW : Fr [] wr W) => lx_Live W _ _ x5 (j : Int) (hT.out.step hW).val hT.out.okx.ls (by omega))
                          clear hsa hmn hlv hn1 hn2 hA5 hc5 hle
                          go_wp2_with (first
                            | (go_at_call 15; (with_reducible refine useC HSA.out ?_); rintro e w6 ⟨rfl, hf⟩; have HF6 := Lib.hid hf; have HS6 := Lib.hid (hT.out.step hf); clear hf; obtain ⟨⟨X0, X1, X2, X3, X4, X5⟩, hfz⟩ := HS6.out.cells; have hq5 := HC5.out w6 HF6.out)
                            | (go_at_call 16; (with_reducible refine useC (HLV.out w6 HF6.out) ?_); rintro e w7 hn; obtain ⟨L7, q7, he, hf, -⟩ := newrow_len hn; rw [List.length_map, HL2.out] at he; subst he; have HS7 := Lib.hid (HS6.out.step hf); clear hf hn))
                          go_roundw
                          case rel => exact ⟨j + 1, by omega, by go_num, HS7⟩
                          case measure => (simp [intOf]; try omega)
                        · have j1 : ¬ (j : Int) < 6 := by omega
                          clear hj6 hj
                          have HSD := Lib.hid (hT.out.step (Fr.refl [] wr).drew)
                          have HHD := Lib.hid (lf_head wr.drew w.heap.size b d5 HSD.out.disk HSD.out.okd)
                          have hhd : x5.head = d5.head := by obtain ⟨c, hc⟩ := HR5.out; exact hc.head
                          rw [← hhd] at HHD
                          clear hhd
                          have HQ := Lib.hid (fun W (hW : Fr [] wr W) => (hT.out.step hW).cells)
                          go_wp2_with fail
                          (refine wp_region_mix (Fr [] wr ·) 4 [(true, 0), (true, 2), (true, 3), (false, 1)] (by kernel_rfl) (by kernel_rfl) ((Fr.refl _ _).drew) ?_; simp only [pickOps, List.map_cons, List.map_nil, List.getD_cons_zero, List.getD_cons_succ, List.drop_succ_cons, List.drop_zero])
                          (iterate 3 (first | (refine wpMix_take (v := ?_) (by rfl) ?_ ?_; rotate_left; (focus (intro W hW; obtain ⟨⟨X0, X1, X2, X3, X4, X5⟩, hfz⟩ := HQ.out W hW; go_simp; (try with_reducible rfl); done)); try simp only [Act.put, List.setIfInBounds_toArray, List.set_cons_zero, List.set_cons_succ]) | (refine wpMix_leave (by rfl) ?_; try simp only [Act.put, List.setIfInBounds_toArray, List.set_cons_zero, List.set_cons_succ])))
                          refine wpMix_walk ?_
                          go_wp2_with (go_at_call 17; (with_reducible refine useC HHD.out ?_); rintro e w9 ⟨rfl, rfl⟩)
                          refine MixQ.mk ((Fr.refl _ _).drew) ?_
                          refine wpMix_nil ?_
                          go_wp2
                          go_roundw
                          case rel => exact ⟨k + 1, by omega, by omega, by go_num, _, _, _, _, _, _, _, _, _, _, _, _, _, _, _, _, _, HSD, HR5⟩
                          case measure => (simp [intOf]; try omega)
              · skip
                go_wp2_with fail
                obtain ⟨wB, hwB⟩ : ∃ z, z = wD.alloc (.cells #[.slice none 0 0, .slice none 0 0, .slice none 0 0, .slice none 0 0, .slice none 0 0, .int .i64 0] 27) := ⟨_, rfl⟩
                have HYB : Hid (wB.heap[wD.heap.size]? = some (.cells #[.slice none 0 0, .slice none 0 0, .slice none 0 0, .slice none 0 0, .slice none 0 0, .int .i64 0] 27 (0, 0)) ∧ Fr [] wD wB) := by
                  rw [hwB]
                  exact ⟨heap_alloc_new wD _, (Fr.refl _ _).alloc _⟩
                rw [← hwB]
                clear hwB
                have HSB := Lib.hid (HSD.out.step HYB.out.2)
                have HVB : Hid (LxV (fun g => (¬ Foot wB b g ∧ g ≠ X) ∧ g ≠ wD.heap.size) wB (.agg #[.slice A1 n1 c1, .slice A2 n2 c2, .slice A3 n3 c3, .slice A4 n4 c4, .slice A5 n5 c5, .int .i64 (x.head : Int)]) x) := ⟨_, _, _, _, _, rfl, (HSD.out.rows.mono (fun g hg hq => (⟨⟨fun hh => hq.1 (HSD.out.disk.footFr HYB.out.2 g hh), hq.2⟩, by omega⟩ : (¬ Foot wB b g ∧ g ≠ X) ∧ g ≠ wD.heap.size))).step HYB.out.2⟩
                have HGB : Hid (∀ q, wB.heap.size ≤ q → (¬ Foot wB b q ∧ q ≠ X) ∧ q ≠ wD.heap.size) := fun q hq => ⟨HSB.out.new q hq, by have := lt_of_heap HYB.out.1; omega⟩
                refine ForkQ.mk (⟨HSB.out.box, HSB.out.fr⟩) ?_
                refine wpPlan_walk ?_
                go_wp2_with (go_at_call 11; (with_reducible refine useC (HCX.out wB _ HVB.out HGB.out) ?_); rintro e w2 ⟨v2, rfl, hv2, hf2⟩; obtain ⟨B1, m1, q1, B2, m2, q2, B3, m3, q3, B4, m4, q4, B5, m5, q5, rfl, -⟩ := hv2.form; have HS2 := Lib.hid (HSB.out.step hf2); have HV2 := Lib.hid hv2; have HF2 := Lib.hid hf2; clear hv2 hf2)

                have HXF := Lib.hid (LxF.early HSD.out HYB.out.1 HYB.out.2 HF2.out HV2.out)
                clear HVB HGB HCX
                revert HXF
                generalize wD.heap.size = Y
                intro HXF
                clear HV2 HS2 HF2 HSB HYB HSD
                obtain ⟨wF, hwF⟩ : ∃ z, z = w2 := ⟨_, rfl⟩
                subst hwF
                refine ForkQ.mk (⟨HXF.out.s.box, HXF.out.s.fr⟩) ?_
                (iterate 3 (first | (refine wpPlan_take (v := ?_) (by rfl) ?_ ?_; rotate_left; (focus (intro W hW; skip; go_simp; (try with_reducible rfl); done)); try simp only [Act.put, List.setIfInBounds_toArray, List.set_cons_zero, List.set_cons_succ]) | (refine wpPlan_leave (by rfl) ?_; try simp only [Act.put, List.setIfInBounds_toArray, List.set_cons_zero, List.set_cons_succ])))
                obtain ⟨hy7, hs7, hv7⟩ := HXF.out.lay
                have hsX := hs7.put (Fr.refl _ _) hv7 HOY.out
                obtain ⟨⟨y0, y1, y2', y3, y4, y5⟩, hfy⟩ : (wF.cell? ⟨Y, 0, none⟩ = some (.slice none 0 0) ∧ wF.cell? ⟨Y, 1, none⟩ = some (.slice none 0 0) ∧ wF.cell? ⟨Y, 2, none⟩ = some (.slice none 0 0) ∧ wF.cell? ⟨Y, 3, none⟩ = some (.slice none 0 0) ∧ wF.cell? ⟨Y, 4, none⟩ = some (.slice none 0 0) ∧ wF.cell? ⟨Y, 5, none⟩ = some (.int .i64 0)) ∧ ∀ i, wF.frozen? ⟨Y, i, none⟩ = false := ⟨HXF.out.y.cells, fun i => free_block HXF.out.y i none⟩
                unfold lxSet at hy7 hs7 hv7 hsX
                obtain ⟨wY, hwY⟩ : ∃ z, z = (((((wF.setCell ⟨Y, 0, none⟩ (.slice B1 m1 q1)).setCell ⟨Y, 1, none⟩ (.slice B2 m2 q2)).setCell ⟨Y, 2, none⟩ (.slice B3 m3 q3)).setCell ⟨Y, 3, none⟩ (.slice B4 m4 q4)).setCell ⟨Y, 4, none⟩ (.slice B5 m5 q5)).setCell ⟨Y, 5, none⟩ (.int .i64 (y2.head : Int)) := ⟨_, rfl⟩
                rw [← hwY] at hy7 hs7 hv7 hsX
                obtain ⟨wX, hwX⟩ : ∃ z, z = (((((wY.setCell ⟨X, 0, none⟩ (.slice B1 m1 q1)).setCell ⟨X, 1, none⟩ (.slice B2 m2 q2)).setCell ⟨X, 2, none⟩ (.slice B3 m3 q3)).setCell ⟨X, 3, none⟩ (.slice B4 m4 q4)).setCell ⟨X, 4, none⟩ (.slice B5 m5 q5)).setCell ⟨X, 5, none⟩ (.int .i64 (y2.head : Int)) := ⟨_, rfl⟩
                rw [← hwX] at hsX
                have HWY := Lib.hid hwY
                have HWX := Lib.hid hwX
                have HY7 := Lib.hid hy7
                have HS7 := Lib.hid hs7
                have HSX := Lib.hid hsX
                clear hwY hwX hy7 hs7 hv7 hsX HXF
                refine wpPlan_walk ?_
                go_wp2_with fail
                rw [← HWY.out]
                clear HWY y0 y1 y2' y3 y4 y5 hfy
                refine ForkQ.mk (⟨HS7.out.box, HS7.out.fr⟩) ?_
                refine wpPlan_walk ?_
                go_wp2
                refine ForkQ.mk (⟨HS7.out.box, HS7.out.fr⟩) ?_
                refine wpPlan_nil ?_
                obtain ⟨⟨X0, X1, X2, X3, X4, X5⟩, hfz⟩ := HS7.out.cells
                obtain ⟨y0, y1, y2', y3, y4, y5⟩ := HY7.out.cells
                by_cases hok : ok = true
                · subst hok
                  go_wp2_with (rw [← HWX.out]; clear HWX X0 X1 X2 X3 X4 X5 hfz y0 y1 y2' y3 y4 y5)
                  clear HS7 HY7
                  have HSW := HSX
                  have HWE : Hid (errV (Lf.write d z0 z1).2 = errV 0) := (by first | exact HWC.out.trans (if_pos rfl) | exact HWC.out.trans (if_pos trivial))
                  have HERR := Lib.hid (fun W (hW : Fr [] w W) => lxerr_ok W 0 (HE.out W hW))
                  clear HSX HWC
                  obtain ⟨wW, hwW⟩ : ∃ z, z = wX := ⟨_, rfl⟩
                  subst hwW
                  have HSX := Lib.hid (HSW.out.step (Fr.refl [] wW).drew)
                  have hwr := lf_write wW.drew w.heap.size b d z0 z1 HSX.out.disk HSX.out.okd HSX.out.fr.size
                  rw [HWE.out] at hwr
                  have HWR := Lib.hid hwr
                  clear hwr
                  have cz0 := (HC0.out wW HSW.out.fr).1
                  have cz1 := (HC0.out wW HSW.out.fr).2
                  go_wp2_with fail
                  (refine wp_region_mix (Fr [] w ·) 9 [(true, 0), (true, 1), (true, 2), (true, 3), (true, 4), (true, 5), (true, 6), (true, 8), (false, 7)] (by kernel_rfl) (by kernel_rfl) (HSX.out.fr) ?_; simp only [pickOps, List.map_cons, List.map_nil, List.getD_cons_zero, List.getD_cons_succ, List.drop_succ_cons, List.drop_zero])
                  (iterate 8 (first | (refine wpMix_take (v := ?_) (by rfl) ?_ ?_; rotate_left; (focus (intro W hW; obtain ⟨cz0, cz1⟩ := HC0.out W hW; go_simp; (try with_reducible rfl); done)); try simp only [Act.put, List.setIfInBounds_toArray, List.set_cons_zero, List.set_cons_succ]) | (refine wpMix_leave (by rfl) ?_; try simp only [Act.put, List.setIfInBounds_toArray, List.set_cons_zero, List.set_cons_succ])))
                  refine wpMix_walk ?_
                  go_wp2_with (go_at_call 12; (with_reducible refine useC HWR.out ?_); rintro e w6 ha; obtain ⟨rfl, hs⟩ := HSX.out.turn ha HOW.out; have HS6 := Lib.hid hs; clear ha hs; have HER6 := Lib.hid (HERR.out w6 HS6.out.fr))
                  refine MixQ.mk (HS6.out.fr) ?_
                  refine wpMix_nil ?_
                  go_wp2_with (go_at_call 9; (with_reducible refine useC HER6.out ?_); rintro e w7 ⟨rfl, hf⟩; have HS7 := Lib.hid (HS6.out.step hf); clear hf)
                  clear HS6 HER6 HERR HWR HWE HSX HSW HC0 cz0 cz1
                  obtain ⟨d5, hd5⟩ : ∃ d5, (Lf.write d z0 z1).1 = d5 := ⟨_, rfl⟩
                  rw [hd5] at HS7 HRW
                  obtain ⟨w5, hw5⟩ : ∃ z, z = w7 := ⟨_, rfl⟩
                  subst hw5
                  clear hd5 HOW
                  have HS5 : Hid (LxS w w5 b X (.slice B1 m1 q1) (.slice B2 m2 q2) (.slice B3 m3 q3) (.slice B4 m4 q4) (.slice B5 m5 q5) d5 y2 (4 * (k + 1))) := HS7.out.mono (by omega)
                  clear HS7
                  obtain ⟨x5, hx5⟩ : ∃ x5, y2 = x5 := ⟨_, rfl⟩
                  rw [hx5] at HS5 HRW
                  have HR5 := HRW
                  clear HRW hx5
                  go_loopw [13] (fun i wr => ∃ p : Nat, p ≤ 8 ∧ i = .int .i64 p ∧ Hid (LxS w wr b X (.slice B1 m1 q1) (.slice B2 m2 q2) (.slice B3 m3 q3) (.slice B4 m4 q4) (.slice B5 m5 q5) d5 x5 (4 * (k + 1)))) (fun i _ => 8 - (intOf i).toNat)
                  case atStart => exact ⟨0, Nat.zero_le _, rfl, HS5⟩
                  case round =>
                    clear HS5
                    obtain ⟨p, hp, rfl, hT⟩ := hrel
                    by_cases hp8 : p < 8
                    · have p1 : (p : Int) < 8 := by omega
                      have p0 : (0 : Int) ≤ p := by omega
                      have hra : readAns d5 p = .tuple #[.int .i64 (Lf.val d5 p), .nilIface] := by unfold readAns; rw [if_pos (by omega), Int.toNat_natCast]
                      have hrd : Lf.val d5 p = Lx.read x5 p := by obtain ⟨c, hc⟩ := HR5.out; exact Lx.read_eq hc hp8
                      have HRA := Lib.hid (lf_read wr w.heap.size b d5 p hT.out.disk hT.out.okd)
                      rw [hra, hrd] at HRA
                      have HLV := Lib.hid (fun W (hW : Fr [] wr W) => lx_Read W _ _ x5 p (hT.out.step hW).val hT.out.okx.lv)
                      clear hra hrd
                      generalize Lx.read x5 p = y at *
                      go_wp2_with (first
                        | (go_at_call 13; (with_reducible refine useC HRA.out ?_); rintro e w6 ⟨rfl, hf⟩; have HF6 := Lib.hid hf; have HS6 := Lib.hid (hT.out.step hf); clear hf; obtain ⟨⟨X0, X1, X2, X3, X4, X5⟩, hfz⟩ := HS6.out.cells)
                        | (go_at_call 14; (with_reducible refine useC (HLV.out w6 HF6.out) ?_); rintro e w7 ⟨rfl, hf⟩; have HS7 := Lib.hid (HS6.out.step hf); clear hf))
                      go_roundw
                      case rel => exact ⟨p + 1, by omega, by go_num, HS7⟩
                      case measure => (simp [intOf]; try omega)
                    · have p1 : ¬ (p : Int) < 8 := by omega
                      clear hp8 hp
                      go_wp2_with fail
                      have HT := Lib.hid hT.out
                      clear hT
                      obtain ⟨wB, hwB⟩ : ∃ z, z = wr := ⟨_, rfl⟩
                      subst hwB
                      go_loopw [16] (fun i wr => ∃ j : Nat, j ≤ 6 ∧ i = .int .i64 j ∧ Hid (LxS w wr b X (.slice B1 m1 q1) (.slice B2 m2 q2) (.slice B3 m3 q3) (.slice B4 m4 q4) (.slice B5 m5 q5) d5 x5 (4 * (k + 1)))) (fun i _ => 6 - (intOf i).toNat)
                      case atStart => exact ⟨0, Nat.zero_le _, rfl, HT⟩
                      case round =>
                        clear HT
                        obtain ⟨j, hj, rfl, hT⟩ := hrel
                        by_cases hj6 : j < 6
                        · have j1 : (j : Int) < 6 := by omega
                          have j0 : (0 : Int) ≤ j := by omega
                          obtain ⟨n1', hn1⟩ : ∃ n, (Lf.seg d5 j).length = n := ⟨_, rfl⟩
                          obtain ⟨n2', hn2⟩ : ∃ n, (Lf.live d5 j).length = n := ⟨_, rfl⟩
                          have hmn : nth x5.many j = (n1' : Int) := by obtain ⟨c, hc⟩ := HR5.out; rw [hc.many j hj6, hn1]
                          have hlv : (Lx.live x5 j).length = n2' := by obtain ⟨c, hc⟩ := HR5.out; rw [← hn2, Lx.live_len hc hj6]
                          have hsa : segAns d5 j = .tuple #[.int .i64 (n1' : Int), .int .i64 (n2' : Int)] := by unfold segAns; rw [if_pos (by omega), Int.toNat_natCast, hn1, hn2]
                          have HSA := Lib.hid (lf_segment wr w.heap.size b d5 j hT.out.disk hT.out.okd)
                          rw [hsa] at HSA
                          have HL2 := Lib.hid hlv
                          obtain ⟨E5, g5, o5, r5, e5, -, hA5, hc5⟩ := hT.out.rows.re.form
                          rw [hT.out.okx.lm] at e5 hA5 hc5
                          obtain rfl := hA5 (by decide)
                          injection e5 with e51 e52 e53
                          subst e51 e52 e53
                          have HC5 := Lib.hid (fun W (hW : Fr [] wr W) => hc5 W hW j hj6)
                          rw [hmn] at HC5
                          have hle := hT.out.okx.le
                          have HLV := Lib.hid (fun W (hW : Fr [] wr W) => lx_Live W _ _ x5 (j : Int) (hT.out.step hW).val hT.out.okx.ls (by omega))
                          clear hsa hmn hlv hn1 hn2 hA5 hc5 hle
                          go_wp2_with (first
                            | (go_at_call 15; (with_reducible refine useC HSA.out ?_); rintro e w6 ⟨rfl, hf⟩; have HF6 := Lib.hid hf; have HS6 := Lib.hid (hT.out.step hf); clear hf; obtain ⟨⟨X0, X1, X2, X3, X4, X5⟩, hfz⟩ := HS6.out.cells; have hq5 := HC5.out w6 HF6.out)
                            | (go_at_call 16; (with_reducible refine useC (HLV.out w6 HF6.out) ?_); rintro e w7 hn; obtain ⟨L7, q7, he, hf, -⟩ := newrow_len hn; rw [List.length_map, HL2.out] at he; subst he; have HS7 := Lib.hid (HS6.out.step hf); clear hf hn))
                          go_roundw
                          case rel => exact ⟨j + 1, by omega, by go_num, HS7⟩
                          case measure => (simp [intOf]; try omega)
                        · have j1 : ¬ (j : Int) < 6 := by omega
                          clear hj6 hj
                          have HSD := Lib.hid (hT.out.step (Fr.refl [] wr).drew)
                          have HHD := Lib.hid (lf_head wr.drew w.heap.size b d5 HSD.out.disk HSD.out.okd)
                          have hhd : x5.head = d5.head := by obtain ⟨c, hc⟩ := HR5.out; exact hc.head
                          rw [← hhd] at HHD
                          clear hhd
                          have HQ := Lib.hid (fun W (hW : Fr [] wr W) => (hT.out.step hW).cells)
                          go_wp2_with fail
                          (refine wp_region_mix (Fr [] wr ·) 4 [(true, 0), (true, 2), (true, 3), (false, 1)] (by kernel_rfl) (by kernel_rfl) ((Fr.refl _ _).drew) ?_; simp only [pickOps, List.map_cons, List.map_nil, List.getD_cons_zero, List.getD_cons_succ, List.drop_succ_cons, List.drop_zero])
                          (iterate 3 (first | (refine wpMix_take (v := ?_) (by rfl) ?_ ?_; rotate_left; (focus (intro W hW; obtain ⟨⟨X0, X1, X2, X3, X4, X5⟩, hfz⟩ := HQ.out W hW; go_simp; (try with_reducible rfl); done)); try simp only [Act.put, List.setIfInBounds_toArray, List.set_cons_zero, List.set_cons_succ]) | (refine wpMix_leave (by rfl) ?_; try simp only [Act.put, List.setIfInBounds_toArray, List.set_cons_zero, List.set_cons_succ])))
                          refine wpMix_walk ?_
                          go_wp2_with (go_at_call 17; (with_reducible refine useC HHD.out ?_); rintro e w9 ⟨rfl, rfl⟩)
                          refine MixQ.mk ((Fr.refl _ _).drew) ?_
                          refine wpMix_nil ?_
                          go_wp2
                          go_roundw
                          case rel => exact ⟨k + 1, by omega, by omega, by go_num, _, _, _, _, _, _, _, _, _, _, _, _, _, _, _, _, _, HSD, HR5⟩
                          case measure => (simp [intOf]; try omega)
                · obtain rfl : ok = false := by simpa using hok
                  go_wp2_with fail
                  clear HWX HSX HY7 X0 X1 X2 X3 X4 X5 hfz y0 y1 y2' y3 y4 y5 HRW
                  have HSW := HS7.out.mono (show 4 * k ≤ 4 * k + 1 by omega)
                  have HSW := Lib.hid HSW
                  have HWE : Hid (errV (Lf.write d z0 z1).2 = errV 4) := HWC.out.trans (if_neg (by simp))
                  have HERR := Lib.hid (fun W (hW : Fr [] w W) => lxerr_ok W 4 (HE.out W hW))
                  have HRW : Hid (∃ c', Lx.Rel (fun _ => False) (Lf.write d z0 z1).1 x c') := (by first | exact HRX.out rfl | exact HRX.out trivial)
                  clear HS7 HWC
                  obtain ⟨wW, hwW⟩ : ∃ z, z = wY := ⟨_, rfl⟩
                  subst hwW
                  have HSX := Lib.hid (HSW.out.step (Fr.refl [] wW).drew)
                  have hwr := lf_write wW.drew w.heap.size b d z0 z1 HSX.out.disk HSX.out.okd HSX.out.fr.size
                  rw [HWE.out] at hwr
                  have HWR := Lib.hid hwr
                  clear hwr
                  have cz0 := (HC0.out wW HSW.out.fr).1
                  have cz1 := (HC0.out wW HSW.out.fr).2
                  go_wp2_with fail
                  (refine wp_region_mix (Fr [] w ·) 9 [(true, 0), (true, 1), (true, 2), (true, 3), (true, 4), (true, 5), (true, 6), (true, 8), (false, 7)] (by kernel_rfl) (by kernel_rfl) (HSX.out.fr) ?_; simp only [pickOps, List.map_cons, List.map_nil, List.getD_cons_zero, List.getD_cons_succ, List.drop_succ_cons, List.drop_zero])
                  (iterate 8 (first | (refine wpMix_take (v := ?_) (by rfl) ?_ ?_; rotate_left; (focus (intro W hW; obtain ⟨cz0, cz1⟩ := HC0.out W hW; go_simp; (try with_reducible rfl); done)); try simp only [Act.put, List.setIfInBounds_toArray, List.set_cons_zero, List.set_cons_succ]) | (refine wpMix_leave (by rfl) ?_; try simp only [Act.put, List.setIfInBounds_toArray, List.set_cons_zero, List.set_cons_succ])))
                  refine wpMix_walk ?_
                  go_wp2_with (go_at_call 12; (with_reducible refine useC HWR.out ?_); rintro e w6 ha; obtain ⟨rfl, hs⟩ := HSX.out.turn ha HOW.out; have HS6 := Lib.hid hs; clear ha hs; have HER6 := Lib.hid (HERR.out w6 HS6.out.fr))
                  refine MixQ.mk (HS6.out.fr) ?_
                  refine wpMix_nil ?_
                  go_wp2_with (go_at_call 9; (with_reducible refine useC HER6.out ?_); rintro e w7 ⟨rfl, hf⟩; have HS7 := Lib.hid (HS6.out.step hf); clear hf)
                  clear HS6 HER6 HERR HWR HWE HSX HSW HC0 cz0 cz1
                  obtain ⟨d5, hd5⟩ : ∃ d5, (Lf.write d z0 z1).1 = d5 := ⟨_, rfl⟩
                  rw [hd5] at HS7 HRW
                  obtain ⟨w5, hw5⟩ : ∃ z, z = w7 := ⟨_, rfl⟩
                  subst hw5
                  clear hd5 HOW
                  have HS5 : Hid (LxS w w5 b X (.slice A1 n1 c1) (.slice A2 n2 c2) (.slice A3 n3 c3) (.slice A4 n4 c4) (.slice A5 n5 c5) d5 x (4 * (k + 1))) := HS7.out.mono (by omega)
                  clear HS7
                  obtain ⟨x5, hx5⟩ : ∃ x5, x = x5 := ⟨_, rfl⟩
                  rw [hx5] at HS5 HRW
                  have HR5 := HRW
                  clear HRW hx5
                  go_loopw [13] (fun i wr => ∃ p : Nat, p ≤ 8 ∧ i = .int .i64 p ∧ Hid (LxS w wr b X (.slice A1 n1 c1) (.slice A2 n2 c2) (.slice A3 n3 c3) (.slice A4 n4 c4) (.slice A5 n5 c5) d5 x5 (4 * (k + 1)))) (fun i _ => 8 - (intOf i).toNat)
                  case atStart => exact ⟨0, Nat.zero_le _, rfl, HS5⟩
                  case round =>
                    clear HS5
                    obtain ⟨p, hp, rfl, hT⟩ := hrel
                    by_cases hp8 : p < 8
                    · have p1 : (p : Int) < 8 := by omega
                      have p0 : (0 : Int) ≤ p := by omega
                      have hra : readAns d5 p = .tuple #[.int .i64 (Lf.val d5 p), .nilIface] := by unfold readAns; rw [if_pos (by omega), Int.toNat_natCast]
                      have hrd : Lf.val d5 p = Lx.read x5 p := by obtain ⟨c, hc⟩ := HR5.out; exact Lx.read_eq hc hp8
                      have HRA := Lib.hid (lf_read wr w.heap.size b d5 p hT.out.disk hT.out.okd)
                      rw [hra, hrd] at HRA
                      have HLV := Lib.hid (fun W (hW : Fr [] wr W) => lx_Read W _ _ x5 p (hT.out.step hW).val hT.out.okx.lv)
                      clear hra hrd
                      generalize Lx.read x5 p = y at *
                      go_wp2_with (first
                        | (go_at_call 13; (with_reducible refine useC HRA.out ?_); rintro e w6 ⟨rfl, hf⟩; have HF6 := Lib.hid hf; have HS6 := Lib.hid (hT.out.step hf); clear hf; obtain ⟨⟨X0, X1, X2, X3, X4, X5⟩, hfz⟩ := HS6.out.cells)
                        | (go_at_call 14; (with_reducible refine useC (HLV.out w6 HF6.out) ?_); rintro e w7 ⟨rfl, hf⟩; have HS7 := Lib.hid (HS6.out.step hf); clear hf))
                      go_roundw
                      case rel => exact ⟨p + 1, by omega, by go_num, HS7⟩
                      case measure => (simp [intOf]; try omega)
                    · have p1 : ¬ (p : Int) < 8 := by omega
                      clear hp8 hp
                      go_wp2_with fail
                      have HT := Lib.hid hT.out
                      clear hT
                      obtain ⟨wB, hwB⟩ : ∃ z, z = wr := ⟨_, rfl⟩
                      subst hwB
                      go_loopw [16] (fun i wr => ∃ j : Nat, j ≤ 6 ∧ i = .int .i64 j ∧ Hid (LxS w wr b X (.slice A1 n1 c1) (.slice A2 n2 c2) (.slice A3 n3 c3) (.slice A4 n4 c4) (.slice A5 n5 c5) d5 x5 (4 * (k + 1)))) (fun i _ => 6 - (intOf i).toNat)
                      case atStart => exact ⟨0, Nat.zero_le _, rfl, HT⟩
                      case round =>
                        clear HT
                        obtain ⟨j, hj, rfl, hT⟩ := hrel
                        by_cases hj6 : j < 6
                        · have j1 : (j : Int) < 6 := by omega
                          have j0 : (0 : Int) ≤ j := by omega
                          obtain ⟨n1', hn1⟩ : ∃ n, (Lf.seg d5 j).length = n := ⟨_, rfl⟩
                          obtain ⟨n2', hn2⟩ : ∃ n, (Lf.live d5 j).length = n := ⟨_, rfl⟩
                          have hmn : nth x5.many j = (n1' : Int) := by obtain ⟨c, hc⟩ := HR5.out; rw [hc.many j hj6, hn1]
                          have hlv : (Lx.live x5 j).length = n2' := by obtain ⟨c, hc⟩ := HR5.out; rw [← hn2, Lx.live_len hc hj6]
                          have hsa : segAns d5 j = .tuple #[.int .i64 (n1' : Int), .int .i64 (n2' : Int)] := by unfold segAns; rw [if_pos (by omega), Int.toNat_natCast, hn1, hn2]
                          have HSA := Lib.hid (lf_segment wr w.heap.size b d5 j hT.out.disk hT.out.okd)
                          rw [hsa] at HSA
                          have HL2 := Lib.hid hlv
                          obtain ⟨E5, g5, o5, r5, e5, -, hA5, hc5⟩ := hT.out.rows.re.form
                          rw [hT.out.okx.lm] at e5 hA5 hc5
                          obtain rfl := hA5 (by decide)
                          injection e5 with e51 e52 e53
                          subst e51 e52 e53
                          have HC5 := Lib.hid (fun W (hW : Fr [] wr W) => hc5 W hW j hj6)
                          rw [hmn] at HC5
                          have hle := hT.out.okx.le
                          have HLV := Lib.hid (fun W (hW : Fr [] wr W) => lx_Live W _ _ x5 (j : Int) (hT.out.step hW).val hT.out.okx.ls (by omega))
                          clear hsa hmn hlv hn1 hn2 hA5 hc5 hle
                          go_wp2_with (first
                            | (go_at_call 15; (with_reducible refine useC HSA.out ?_); rintro e w6 ⟨rfl, hf⟩; have HF6 := Lib.hid hf; have HS6 := Lib.hid (hT.out.step hf); clear hf; obtain ⟨⟨X0, X1, X2, X3, X4, X5⟩, hfz⟩ := HS6.out.cells; have hq5 := HC5.out w6 HF6.out)
                            | (go_at_call 16; (with_reducible refine useC (HLV.out w6 HF6.out) ?_); rintro e w7 hn; obtain ⟨L7, q7, he, hf, -⟩ := newrow_len hn; rw [List.length_map, HL2.out] at he; subst he; have HS7 := Lib.hid (HS6.out.step hf); clear hf hn))
                          go_roundw
                          case rel => exact ⟨j + 1, by omega, by go_num, HS7⟩
                          case measure => (simp [intOf]; try omega)
                        · have j1 : ¬ (j : Int) < 6 := by omega
                          clear hj6 hj
                          have HSD := Lib.hid (hT.out.step (Fr.refl [] wr).drew)
                          have HHD := Lib.hid (lf_head wr.drew w.heap.size b d5 HSD.out.disk HSD.out.okd)
                          have hhd : x5.head = d5.head := by obtain ⟨c, hc⟩ := HR5.out; exact hc.head
                          rw [← hhd] at HHD
                          clear hhd
                          have HQ := Lib.hid (fun W (hW : Fr [] wr W) => (hT.out.step hW).cells)
                          go_wp2_with fail
                          (refine wp_region_mix (Fr [] wr ·) 4 [(true, 0), (true, 2), (true, 3), (false, 1)] (by kernel_rfl) (by kernel_rfl) ((Fr.refl _ _).drew) ?_; simp only [pickOps, List.map_cons, List.map_nil, List.getD_cons_zero, List.getD_cons_succ, List.drop_succ_cons, List.drop_zero])
                          (iterate 3 (first | (refine wpMix_take (v := ?_) (by rfl) ?_ ?_; rotate_left; (focus (intro W hW; obtain ⟨⟨X0, X1, X2, X3, X4, X5⟩, hfz⟩ := HQ.out W hW; go_simp; (try with_reducible rfl); done)); try simp only [Act.put, List.setIfInBounds_toArray, List.set_cons_zero, List.set_cons_succ]) | (refine wpMix_leave (by rfl) ?_; try simp only [Act.put, List.setIfInBounds_toArray, List.set_cons_zero, List.set_cons_succ])))
                          refine wpMix_walk ?_
                          go_wp2_with (go_at_call 17; (with_reducible refine useC HHD.out ?_); rintro e w9 ⟨rfl, rfl⟩)
                          refine MixQ.mk ((Fr.refl _ _).drew) ?_
                          refine wpMix_nil ?_
                          go_wp2
                          go_roundw
                          case rel => exact ⟨k + 1, by omega, by omega, by go_num, _, _, _, _, _, _, _, _, _, _, _, _, _, _, _, _, _, HSD, HR5⟩
                          case measure => (simp [intOf]; try omega)
            · have e2 := decide_eq_false hz'
              have hwe : errV (Lf.write d z0 z1).2 = errV 1 := by unfold Lf.write; rw [if_neg (by unfold Lf.okP; omega)]
              have hwd : (Lf.write d z0 z1).1 = d := by unfold Lf.write; rw [if_neg (by unfold Lf.okP; omega)]
              have HWE := Lib.hid hwe
              have HRW : Hid (∃ c', Lx.Rel (fun _ => False) (Lf.write d z0 z1).1 x c') := by show ∃ c', _; rw [hwd]; exact hRel.out
              have HERR := Lib.hid (fun W (hW : Fr [] w W) => lxerr_ok W 1 (HE.out W hW))
              clear hwe hwd hz hz'
              go_wp2_with (first
                | (go_at_call 10; (with_reducible refine useC (in3_is z0 0 7 true _ e1) ?_); rintro e wr ⟨rfl, rfl⟩)
                | (go_at_call 10; (with_reducible refine useC (in3_is z1 0 1000 false _ e2) ?_); rintro e wr ⟨rfl, rfl⟩; go_wp2_with fail))
              clear X0 X1 X2 X3 X4 X5 hfz hcell cz0 cz1
              have HSW := Lib.hid (hS.out.mono (show 4 * k ≤ 4 * k + 1 by omega))
              obtain ⟨wW, hwW⟩ : ∃ z, z = wr := ⟨_, rfl⟩
              subst hwW
              clear hS hRel
              have HSX := Lib.hid (HSW.out.step (Fr.refl [] wW).drew)
              have hwr := lf_write wW.drew w.heap.size b d z0 z1 HSX.out.disk HSX.out.okd HSX.out.fr.size
              rw [HWE.out] at hwr
              have HWR := Lib.hid hwr
              clear hwr
              have cz0 := (HC0.out wW HSW.out.fr).1
              have cz1 := (HC0.out wW HSW.out.fr).2
              go_wp2_with fail
              (refine wp_region_mix (Fr [] w ·) 9 [(true, 0), (true, 1), (true, 2), (true, 3), (true, 4), (true, 5), (true, 6), (true, 8), (false, 7)] (by kernel_rfl) (by kernel_rfl) (HSX.out.fr) ?_; simp only [pickOps, List.map_cons, List.map_nil, List.getD_cons_zero, List.getD_cons_succ, List.drop_succ_cons, List.drop_zero])
              (iterate 8 (first | (refine wpMix_take (v := ?_) (by rfl) ?_ ?_; rotate_left; (focus (intro W hW; obtain ⟨cz0, cz1⟩ := HC0.out W hW; go_simp; (try with_reducible rfl); done)); try simp only [Act.put, List.setIfInBounds_toArray, List.set_cons_zero, List.set_cons_succ]) | (refine wpMix_leave (by rfl) ?_; try simp only [Act.put, List.setIfInBounds_toArray, List.set_cons_zero, List.set_cons_succ])))
              refine wpMix_walk ?_
              go_wp2_with (go_at_call 12; (with_reducible refine useC HWR.out ?_); rintro e w6 ha; obtain ⟨rfl, hs⟩ := HSX.out.turn ha HOW.out; have HS6 := Lib.hid hs; clear ha hs; have HER6 := Lib.hid (HERR.out w6 HS6.out.fr))
              refine MixQ.mk (HS6.out.fr) ?_
              refine wpMix_nil ?_
              go_wp2_with (go_at_call 9; (with_reducible refine useC HER6.out ?_); rintro e w7 ⟨rfl, hf⟩; have HS7 := Lib.hid (HS6.out.step hf); clear hf)
              clear HS6 HER6 HERR HWR HWE HSX HSW HC0 cz0 cz1
              obtain ⟨d5, hd5⟩ : ∃ d5, (Lf.write d z0 z1).1 = d5 := ⟨_, rfl⟩
              rw [hd5] at HS7 HRW
              obtain ⟨w5, hw5⟩ : ∃ z, z = w7 := ⟨_, rfl⟩
              subst hw5
              clear hd5 HOW
              have HS5 : Hid (LxS w w5 b X (.slice A1 n1 c1) (.slice A2 n2 c2) (.slice A3 n3 c3) (.slice A4 n4 c4) (.slice A5 n5 c5) d5 x (4 * (k + 1))) := HS7.out.mono (by omega)
              clear HS7
              obtain ⟨x5, hx5⟩ : ∃ x5, x = x5 := ⟨_, rfl⟩
              rw [hx5] at HS5 HRW
              have HR5 := HRW
              clear HRW hx5
              go_loopw [13] (fun i wr => ∃ p : Nat, p ≤ 8 ∧ i = .int .i64 p ∧ Hid (LxS w wr b X (.slice A1 n1 c1) (.slice A2 n2 c2) (.slice A3 n3 c3) (.slice A4 n4 c4) (.slice A5 n5 c5) d5 x5 (4 * (k + 1)))) (fun i _ => 8 - (intOf i).toNat)
              case atStart => exact ⟨0, Nat.zero_le _, rfl, HS5⟩
              case round =>
                clear HS5
                obtain ⟨p, hp, rfl, hT⟩ := hrel
                by_cases hp8 : p < 8
                · have p1 : (p : Int) < 8 := by omega
                  have p0 : (0 : Int) ≤ p := by omega
                  have hra : readAns d5 p = .tuple #[.int .i64 (Lf.val d5 p), .nilIface] := by unfold readAns; rw [if_pos (by omega), Int.toNat_natCast]
                  have hrd : Lf.val d5 p = Lx.read x5 p := by obtain ⟨c, hc⟩ := HR5.out; exact Lx.read_eq hc hp8
                  have HRA := Lib.hid (lf_read wr w.heap.size b d5 p hT.out.disk hT.out.okd)
                  rw [hra, hrd] at HRA
                  have HLV := Lib.hid (fun W (hW : Fr [] wr W) => lx_Read W _ _ x5 p (hT.out.step hW).val hT.out.okx.lv)
                  clear hra hrd
                  generalize Lx.read x5 p = y at *
                  go_wp2_with (first
                    | (go_at_call 13; (with_reducible refine useC HRA.out ?_); rintro e w6 ⟨rfl, hf⟩; have HF6 := Lib.hid hf; have HS6 := Lib.hid (hT.out.step hf); clear hf; obtain ⟨⟨X0, X1, X2, X3, X4, X5⟩, hfz⟩ := HS6.out.cells)
                    | (go_at_call 14; (with_reducible refine useC (HLV.out w6 HF6.out) ?_); rintro e w7 ⟨rfl, hf⟩; have HS7 := Lib.hid (HS6.out.step hf); clear hf))
                  go_roundw
                  case rel => exact ⟨p + 1, by omega, by go_num, HS7⟩
                  case measure => (simp [intOf]; try omega)
                · have p1 : ¬ (p : Int) < 8 := by omega
                  clear hp8 hp
                  go_wp2_with fail
                  have HT := Lib.hid hT.out
                  clear hT
                  obtain ⟨wB, hwB⟩ : ∃ z, z = wr := ⟨_, rfl⟩
                  subst hwB
                  go_loopw [16] (fun i wr => ∃ j : Nat, j ≤ 6 ∧ i = .int .i64 j ∧ Hid (LxS w wr b X (.slice A1 n1 c1) (.slice A2 n2 c2) (.slice A3 n3 c3) (.slice A4 n4 c4) (.slice A5 n5 c5) d5 x5 (4 * (k + 1)))) (fun i _ => 6 - (intOf i).toNat)
                  case atStart => exact ⟨0, Nat.zero_le _, rfl, HT⟩
                  case round =>
                    clear HT
                    obtain ⟨j, hj, rfl, hT⟩ := hrel
                    by_cases hj6 : j < 6
                    · have j1 : (j : Int) < 6 := by omega
                      have j0 : (0 : Int) ≤ j := by omega
                      obtain ⟨n1', hn1⟩ : ∃ n, (Lf.seg d5 j).length = n := ⟨_, rfl⟩
                      obtain ⟨n2', hn2⟩ : ∃ n, (Lf.live d5 j).length = n := ⟨_, rfl⟩
                      have hmn : nth x5.many j = (n1' : Int) := by obtain ⟨c, hc⟩ := HR5.out; rw [hc.many j hj6, hn1]
                      have hlv : (Lx.live x5 j).length = n2' := by obtain ⟨c, hc⟩ := HR5.out; rw [← hn2, Lx.live_len hc hj6]
                      have hsa : segAns d5 j = .tuple #[.int .i64 (n1' : Int), .int .i64 (n2' : Int)] := by unfold segAns; rw [if_pos (by omega), Int.toNat_natCast, hn1, hn2]
                      have HSA := Lib.hid (lf_segment wr w.heap.size b d5 j hT.out.disk hT.out.okd)
                      rw [hsa] at HSA
                      have HL2 := Lib.hid hlv
                      obtain ⟨E5, g5, o5, r5, e5, -, hA5, hc5⟩ := hT.out.rows.re.form
                      rw [hT.out.okx.lm] at e5 hA5 hc5
                      obtain rfl := hA5 (by decide)
                      injection e5 with e51 e52 e53
                      subst e51 e52 e53
                      have HC5 := Lib.hid (fun W (hW : Fr [] wr W) => hc5 W hW j hj6)
                      rw [hmn] at HC5
                      have hle := hT.out.okx.le
                      have HLV := Lib.hid (fun W (hW : Fr [] wr W) => lx_Live W _ _ x5 (j : Int) (hT.out.step hW).val hT.out.okx.ls (by omega))
                      clear hsa hmn hlv hn1 hn2 hA5 hc5 hle
                      go_wp2_with (first
                        | (go_at_call 15; (with_reducible refine useC HSA.out ?_); rintro e w6 ⟨rfl, hf⟩; have HF6 := Lib.hid hf; have HS6 := Lib.hid (hT.out.step hf); clear hf; obtain ⟨⟨X0, X1, X2, X3, X4, X5⟩, hfz⟩ := HS6.out.cells; have hq5 := HC5.out w6 HF6.out)
                        | (go_at_call 16; (with_reducible refine useC (HLV.out w6 HF6.out) ?_); rintro e w7 hn; obtain ⟨L7, q7, he, hf, -⟩ := newrow_len hn; rw [List.length_map, HL2.out] at he; subst he; have HS7 := Lib.hid (HS6.out.step hf); clear hf hn))
                      go_roundw
                      case rel => exact ⟨j + 1, by omega, by go_num, HS7⟩
                      case measure => (simp [intOf]; try omega)
                    · have j1 : ¬ (j : Int) < 6 := by omega
                      clear hj6 hj
                      have HSD := Lib.hid (hT.out.step (Fr.refl [] wr).drew)
                      have HHD := Lib.hid (lf_head wr.drew w.heap.size b d5 HSD.out.disk HSD.out.okd)
                      have hhd : x5.head = d5.head := by obtain ⟨c, hc⟩ := HR5.out; exact hc.head
                      rw [← hhd] at HHD
                      clear hhd
                      have HQ := Lib.hid (fun W (hW : Fr [] wr W) => (hT.out.step hW).cells)
                      go_wp2_with fail
                      (refine wp_region_mix (Fr [] wr ·) 4 [(true, 0), (true, 2), (true, 3), (false, 1)] (by kernel_rfl) (by kernel_rfl) ((Fr.refl _ _).drew) ?_; simp only [pickOps, List.map_cons, List.map_nil, List.getD_cons_zero, List.getD_cons_succ, List.drop_succ_cons, List.drop_zero])
                      (iterate 3 (first | (refine wpMix_take (v := ?_) (by rfl) ?_ ?_; rotate_left; (focus (intro W hW; obtain ⟨⟨X0, X1, X2, X3, X4, X5⟩, hfz⟩ := HQ.out W hW; go_simp; (try with_reducible rfl); done)); try simp only [Act.put, List.setIfInBounds_toArray, List.set_cons_zero, List.set_cons_succ]) | (refine wpMix_leave (by rfl) ?_; try simp only [Act.put, List.setIfInBounds_toArray, List.set_cons_zero, List.set_cons_succ])))
                      refine wpMix_walk ?_
                      go_wp2_with (go_at_call 17; (with_reducible refine useC HHD.out ?_); rintro e w9 ⟨rfl, rfl⟩)
                      refine MixQ.mk ((Fr.refl _ _).drew) ?_
                      refine wpMix_nil ?_
                      go_wp2
                      go_roundw
                      case rel => exact ⟨k + 1, by omega, by omega, by go_num, _, _, _, _, _, _, _, _, _, _, _, _, _, _, _, _, _, HSD, HR5⟩
                      case measure => (simp [intOf]; try omega)
          · have e1 := decide_eq_false hz
            have hwe : errV (Lf.write d z0 z1).2 = errV 1 := by unfold Lf.write; rw [if_neg (by unfold Lf.okP; omega)]
            have hwd : (Lf.write d z0 z1).1 = d := by unfold Lf.write; rw [if_neg (by unfold Lf.okP; omega)]
            have HWE := Lib.hid hwe
            have HRW : Hid (∃ c', Lx.Rel (fun _ => False) (Lf.write d z0 z1).1 x c') := by show ∃ c', _; rw [hwd]; exact hRel.out
            have HERR := Lib.hid (fun W (hW : Fr [] w W) => lxerr_ok W 1 (HE.out W hW))
            clear hwe hwd hz 
            go_wp2_with (first
              | (go_at_call 10; (with_reducible refine useC (in3_is z0 0 7 false _ e1) ?_); rintro e wr ⟨rfl, rfl⟩; go_wp2_with fail))
            clear X0 X1 X2 X3 X4 X5 hfz hcell cz0 cz1
            have HSW := Lib.hid (hS.out.mono (show 4 * k ≤ 4 * k + 1 by omega))
            obtain ⟨wW, hwW⟩ : ∃ z, z = wr := ⟨_, rfl⟩
            subst hwW
            clear hS hRel
            have HSX := Lib.hid (HSW.out.step (Fr.refl [] wW).drew)
            have hwr := lf_write wW.drew w.heap.size b d z0 z1 HSX.out.disk HSX.out.okd HSX.out.fr.size
            rw [HWE.out] at hwr
            have HWR := Lib.hid hwr
            clear hwr
            have cz0 := (HC0.out wW HSW.out.fr).1
            have cz1 := (HC0.out wW HSW.out.fr).2
            go_wp2_with fail
            (refine wp_region_mix (Fr [] w ·) 9 [(true, 0), (true, 1), (true, 2), (true, 3), (true, 4), (true, 5), (true, 6), (true, 8), (false, 7)] (by kernel_rfl) (by kernel_rfl) (HSX.out.fr) ?_; simp only [pickOps, List.map_cons, List.map_nil, List.getD_cons_zero, List.getD_cons_succ, List.drop_succ_cons, List.drop_zero])
            (iterate 8 (first | (refine wpMix_take (v := ?_) (by rfl) ?_ ?_; rotate_left; (focus (intro W hW; obtain ⟨cz0, cz1⟩ := HC0.out W hW; go_simp; (try with_reducible rfl); done)); try simp only [Act.put, List.setIfInBounds_toArray, List.set_cons_zero, List.set_cons_succ]) | (refine wpMix_leave (by rfl) ?_; try simp only [Act.put, List.setIfInBounds_toArray, List.set_cons_zero, List.set_cons_succ])))
            refine wpMix_walk ?_
            go_wp2_with (go_at_call 12; (with_reducible refine useC HWR.out ?_); rintro e w6 ha; obtain ⟨rfl, hs⟩ := HSX.out.turn ha HOW.out; have HS6 := Lib.hid hs; clear ha hs; have HER6 := Lib.hid (HERR.out w6 HS6.out.fr))
            refine MixQ.mk (HS6.out.fr) ?_
            refine wpMix_nil ?_
            go_wp2_with (go_at_call 9; (with_reducible refine useC HER6.out ?_); rintro e w7 ⟨rfl, hf⟩; have HS7 := Lib.hid (HS6.out.step hf); clear hf)
            clear HS6 HER6 HERR HWR HWE HSX HSW HC0 cz0 cz1
            obtain ⟨d5, hd5⟩ : ∃ d5, (Lf.write d z0 z1).1 = d5 := ⟨_, rfl⟩
            rw [hd5] at HS7 HRW
            obtain ⟨w5, hw5⟩ : ∃ z, z = w7 := ⟨_, rfl⟩
            subst hw5
            clear hd5 HOW
            have HS5 : Hid (LxS w w5 b X (.slice A1 n1 c1) (.slice A2 n2 c2) (.slice A3 n3 c3) (.slice A4 n4 c4) (.slice A5 n5 c5) d5 x (4 * (k + 1))) := HS7.out.mono (by omega)
            clear HS7
            obtain ⟨x5, hx5⟩ : ∃ x5, x = x5 := ⟨_, rfl⟩
            rw [hx5] at HS5 HRW
            have HR5 := HRW
            clear HRW hx5
            go_loopw [13] (fun i wr => ∃ p : Nat, p ≤ 8 ∧ i = .int .i64 p ∧ Hid (LxS w wr b X (.slice A1 n1 c1) (.slice A2 n2 c2) (.slice A3 n3 c3) (.slice A4 n4 c4) (.slice A5 n5 c5) d5 x5 (4 * (k + 1)))) (fun i _ => 8 - (intOf i).toNat)
            case atStart => exact ⟨0, Nat.zero_le _, rfl, HS5⟩
            case round =>
              clear HS5
              obtain ⟨p, hp, rfl, hT⟩ := hrel
              by_cases hp8 : p < 8
              · have p1 : (p : Int) < 8 := by omega
                have p0 : (0 : Int) ≤ p := by omega
                have hra : readAns d5 p = .tuple #[.int .i64 (Lf.val d5 p), .nilIface] := by unfold readAns; rw [if_pos (by omega), Int.toNat_natCast]
                have hrd : Lf.val d5 p = Lx.read x5 p := by obtain ⟨c, hc⟩ := HR5.out; exact Lx.read_eq hc hp8
                have HRA := Lib.hid (lf_read wr w.heap.size b d5 p hT.out.disk hT.out.okd)
                rw [hra, hrd] at HRA
                have HLV := Lib.hid (fun W (hW : Fr [] wr W) => lx_Read W _ _ x5 p (hT.out.step hW).val hT.out.okx.lv)
                clear hra hrd
                generalize Lx.read x5 p = y at *
                go_wp2_with (first
                  | (go_at_call 13; (with_reducible refine useC HRA.out ?_); rintro e w6 ⟨rfl, hf⟩; have HF6 := Lib.hid hf; have HS6 := Lib.hid (hT.out.step hf); clear hf; obtain ⟨⟨X0, X1, X2, X3, X4, X5⟩, hfz⟩ := HS6.out.cells)
                  | (go_at_call 14; (with_reducible refine useC (HLV.out w6 HF6.out) ?_); rintro e w7 ⟨rfl, hf⟩; have HS7 := Lib.hid (HS6.out.step hf); clear hf))
                go_roundw
                case rel => exact ⟨p + 1, by omega, by go_num, HS7⟩
                case measure => (simp [intOf]; try omega)
              · have p1 : ¬ (p : Int) < 8 := by omega
                clear hp8 hp
                go_wp2_with fail
                have HT := Lib.hid hT.out
                clear hT
                obtain ⟨wB, hwB⟩ : ∃ z, z = wr := ⟨_, rfl⟩
                subst hwB
                go_loopw [16] (fun i wr => ∃ j : Nat, j ≤ 6 ∧ i = .int .i64 j ∧ Hid (LxS w wr b X (.slice A1 n1 c1) (.slice A2 n2 c2) (.slice A3 n3 c3) (.slice A4 n4 c4) (.slice A5 n5 c5) d5 x5 (4 * (k + 1)))) (fun i _ => 6 - (intOf i).toNat)
                case atStart => exact ⟨0, Nat.zero_le _, rfl, HT⟩
                case round =>
                  clear HT
                  obtain ⟨j, hj, rfl, hT⟩ := hrel
                  by_cases hj6 : j < 6
                  · have j1 : (j : Int) < 6 := by omega
                    have j0 : (0 : Int) ≤ j := by omega
                    obtain ⟨n1', hn1⟩ : ∃ n, (Lf.seg d5 j).length = n := ⟨_, rfl⟩
                    obtain ⟨n2', hn2⟩ : ∃ n, (Lf.live d5 j).length = n := ⟨_, rfl⟩
                    have hmn : nth x5.many j = (n1' : Int) := by obtain ⟨c, hc⟩ := HR5.out; rw [hc.many j hj6, hn1]
                    have hlv : (Lx.live x5 j).length = n2' := by obtain ⟨c, hc⟩ := HR5.out; rw [← hn2, Lx.live_len hc hj6]
                    have hsa : segAns d5 j = .tuple #[.int .i64 (n1' : Int), .int .i64 (n2' : Int)] := by unfold segAns; rw [if_pos (by omega), Int.toNat_natCast, hn1, hn2]
                    have HSA := Lib.hid (lf_segment wr w.heap.size b d5 j hT.out.disk hT.out.okd)
                    rw [hsa] at HSA
                    have HL2 := Lib.hid hlv
                    obtain ⟨E5, g5, o5, r5, e5, -, hA5, hc5⟩ := hT.out.rows.re.form
                    rw [hT.out.okx.lm] at e5 hA5 hc5
                    obtain rfl := hA5 (by decide)
                    injection e5 with e51 e52 e53
                    subst e51 e52 e53
                    have HC5 := Lib.hid (fun W (hW : Fr [] wr W) => hc5 W hW j hj6)
                    rw [hmn] at HC5
                    have hle := hT.out.okx.le
                    have HLV := Lib.hid (fun W (hW : Fr [] wr W) => lx_Live W _ _ x5 (j : Int) (hT.out.step hW).val hT.out.okx.ls (by omega))
                    clear hsa hmn hlv hn1 hn2 hA5 hc5 hle
                    go_wp2_with (first
                      | (go_at_call 15; (with_reducible refine useC HSA.out ?_); rintro e w6 ⟨rfl, hf⟩; have HF6 := Lib.hid hf; have HS6 := Lib.hid (hT.out.step hf); clear hf; obtain ⟨⟨X0, X1, X2, X3, X4, X5⟩, hfz⟩ := HS6.out.cells; have hq5 := HC5.out w6 HF6.out)
                      | (go_at_call 16; (with_reducible refine useC (HLV.out w6 HF6.out) ?_); rintro e w7 hn; obtain ⟨L7, q7, he, hf, -⟩ := newrow_len hn; rw [List.length_map, HL2.out] at he; subst he; have HS7 := Lib.hid (HS6.out.step hf); clear hf hn))
                    go_roundw
                    case rel => exact ⟨j + 1, by omega, by go_num, HS7⟩
                    case measure => (simp [intOf]; try omega)
                  · have j1 : ¬ (j : Int) < 6 := by omega
                    clear hj6 hj
                    have HSD := Lib.hid (hT.out.step (Fr.refl [] wr).drew)
                    have HHD := Lib.hid (lf_head wr.drew w.heap.size b d5 HSD.out.disk HSD.out.okd)
                    have hhd : x5.head = d5.head := by obtain ⟨c, hc⟩ := HR5.out; exact hc.head
                    rw [← hhd] at HHD
                    clear hhd
                    have HQ := Lib.hid (fun W (hW : Fr [] wr W) => (hT.out.step hW).cells)
                    go_wp2_with fail
                    (refine wp_region_mix (Fr [] wr ·) 4 [(true, 0), (true, 2), (true, 3), (false, 1)] (by kernel_rfl) (by kernel_rfl) ((Fr.refl _ _).drew) ?_; simp only [pickOps, List.map_cons, List.map_nil, List.getD_cons_zero, List.getD_cons_succ, List.drop_succ_cons, List.drop_zero])
                    (iterate 3 (first | (refine wpMix_take (v := ?_) (by rfl) ?_ ?_; rotate_left; (focus (intro W hW; obtain ⟨⟨X0, X1, X2, X3, X4, X5⟩, hfz⟩ := HQ.out W hW; go_simp; (try with_reducible rfl); done)); try simp only [Act.put, List.setIfInBounds_toArray, List.set_cons_zero, List.set_cons_succ]) | (refine wpMix_leave (by rfl) ?_; try simp only [Act.put, List.setIfInBounds_toArray, List.set_cons_zero, List.set_cons_succ])))
                    refine wpMix_walk ?_
                    go_wp2_with (go_at_call 17; (with_reducible refine useC HHD.out ?_); rintro e w9 ⟨rfl, rfl⟩)
                    refine MixQ.mk ((Fr.refl _ _).drew) ?_
                    refine wpMix_nil ?_
                    go_wp2
                    go_roundw
                    case rel => exact ⟨k + 1, by omega, by omega, by go_num, _, _, _, _, _, _, _, _, _, _, _, _, _, _, _, _, _, HSD, HR5⟩
                    case measure => (simp [intOf]; try omega)
        · have b1 : (((nthR ls k).length : Int) == 1) = false := beq_eq_false_iff_ne.2 (by omega)
          have b2 : (((nthR ls k).length : Int) == 2) = false := beq_eq_false_iff_ne.2 (by omega)
          clear hc' hA' X0 X1 X2 X3 X4 X5 hfz
          go_wp2_with fail
          obtain ⟨w5, hw5⟩ : ∃ z, z = wr := ⟨_, rfl⟩
          subst hw5
          obtain ⟨B1, m1, q1, B2, m2, q2, B3, m3, q3, B4, m4, q4, B5, m5, q5, d5, x5, HS5, HR5⟩ : ∃ B1 m1 q1 B2 m2 q2 B3 m3 q3 B4 m4 q4 B5 m5 q5 d5 x5, Hid (LxS w w5 b X (.slice B1 m1 q1) (.slice B2 m2 q2) (.slice B3 m3 q3) (.slice B4 m4 q4) (.slice B5 m5 q5) d5 x5 (4 * (k + 1))) ∧ Hid (∃ c, Lx.Rel (fun _ => False) d5 x5 c) := ⟨_, _, _, _, _, _, _, _, _, _, _, _, _, _, _, _, _, hS.out.mono (by omega), hRel⟩
          clear hS hRel
          go_loopw [13] (fun i wr => ∃ p : Nat, p ≤ 8 ∧ i = .int .i64 p ∧ Hid (LxS w wr b X (.slice B1 m1 q1) (.slice B2 m2 q2) (.slice B3 m3 q3) (.slice B4 m4 q4) (.slice B5 m5 q5) d5 x5 (4 * (k + 1)))) (fun i _ => 8 - (intOf i).toNat)
          case atStart => exact ⟨0, Nat.zero_le _, rfl, HS5⟩
          case round =>
            clear HS5
            obtain ⟨p, hp, rfl, hT⟩ := hrel
            by_cases hp8 : p < 8
            · have p1 : (p : Int) < 8 := by omega
              have p0 : (0 : Int) ≤ p := by omega
              have hra : readAns d5 p = .tuple #[.int .i64 (Lf.val d5 p), .nilIface] := by unfold readAns; rw [if_pos (by omega), Int.toNat_natCast]
              have hrd : Lf.val d5 p = Lx.read x5 p := by obtain ⟨c, hc⟩ := HR5.out; exact Lx.read_eq hc hp8
              have HRA := Lib.hid (lf_read wr w.heap.size b d5 p hT.out.disk hT.out.okd)
              rw [hra, hrd] at HRA
              have HLV := Lib.hid (fun W (hW : Fr [] wr W) => lx_Read W _ _ x5 p (hT.out.step hW).val hT.out.okx.lv)
              clear hra hrd
              generalize Lx.read x5 p = y at *
              go_wp2_with (first
                | (go_at_call 13; (with_reducible refine useC HRA.out ?_); rintro e w6 ⟨rfl, hf⟩; have HF6 := Lib.hid hf; have HS6 := Lib.hid (hT.out.step hf); clear hf; obtain ⟨⟨X0, X1, X2, X3, X4, X5⟩, hfz⟩ := HS6.out.cells)
                | (go_at_call 14; (with_reducible refine useC (HLV.out w6 HF6.out) ?_); rintro e w7 ⟨rfl, hf⟩; have HS7 := Lib.hid (HS6.out.step hf); clear hf))
              go_roundw
              case rel => exact ⟨p + 1, by omega, by go_num, HS7⟩
              case measure => (simp [intOf]; try omega)
            · have p1 : ¬ (p : Int) < 8 := by omega
              clear hp8 hp
              go_wp2_with fail
              have HT := Lib.hid hT.out
              clear hT
              obtain ⟨wB, hwB⟩ : ∃ z, z = wr := ⟨_, rfl⟩
              subst hwB
              go_loopw [16] (fun i wr => ∃ j : Nat, j ≤ 6 ∧ i = .int .i64 j ∧ Hid (LxS w wr b X (.slice B1 m1 q1) (.slice B2 m2 q2) (.slice B3 m3 q3) (.slice B4 m4 q4) (.slice B5 m5 q5) d5 x5 (4 * (k + 1)))) (fun i _ => 6 - (intOf i).toNat)
              case atStart => exact ⟨0, Nat.zero_le _, rfl, HT⟩
              case round =>
                clear HT
                obtain ⟨j, hj, rfl, hT⟩ := hrel
                by_cases hj6 : j < 6
                · have j1 : (j : Int) < 6 := by omega
                  have j0 : (0 : Int) ≤ j := by omega
                  obtain ⟨n1', hn1⟩ : ∃ n, (Lf.seg d5 j).length = n := ⟨_, rfl⟩
                  obtain ⟨n2', hn2⟩ : ∃ n, (Lf.live d5 j).length = n := ⟨_, rfl⟩
                  have hmn : nth x5.many j = (n1' : Int) := by obtain ⟨c, hc⟩ := HR5.out; rw [hc.many j hj6, hn1]
                  have hlv : (Lx.live x5 j).length = n2' := by obtain ⟨c, hc⟩ := HR5.out; rw [← hn2, Lx.live_len hc hj6]
                  have hsa : segAns d5 j = .tuple #[.int .i64 (n1' : Int), .int .i64 (n2' : Int)] := by unfold segAns; rw [if_pos (by omega), Int.toNat_natCast, hn1, hn2]
                  have HSA := Lib.hid (lf_segment wr w.heap.size b d5 j hT.out.disk hT.out.okd)
                  rw [hsa] at HSA
                  have HL2 := Lib.hid hlv
                  obtain ⟨E5, g5, o5, r5, e5, -, hA5, hc5⟩ := hT.out.rows.re.form
                  rw [hT.out.okx.lm] at e5 hA5 hc5
                  obtain rfl := hA5 (by decide)
                  injection e5 with e51 e52 e53
                  subst e51 e52 e53
                  have HC5 := Lib.hid (fun W (hW : Fr [] wr W) => hc5 W hW j hj6)
                  rw [hmn] at HC5
                  have hle := hT.out.okx.le
                  have HLV := Lib.hid (fun W (hW : Fr [] wr W) => lx_Live W _ _ x5 (j : Int) (hT.out.step hW).val hT.out.okx.ls (by omega))
                  clear hsa hmn hlv hn1 hn2 hA5 hc5 hle
                  go_wp2_with (first
                    | (go_at_call 15; (with_reducible refine useC HSA.out ?_); rintro e w6 ⟨rfl, hf⟩; have HF6 := Lib.hid hf; have HS6 := Lib.hid (hT.out.step hf); clear hf; obtain ⟨⟨X0, X1, X2, X3, X4, X5⟩, hfz⟩ := HS6.out.cells; have hq5 := HC5.out w6 HF6.out)
                    | (go_at_call 16; (with_reducible refine useC (HLV.out w6 HF6.out) ?_); rintro e w7 hn; obtain ⟨L7, q7, he, hf, -⟩ := newrow_len hn; rw [List.length_map, HL2.out] at he; subst he; have HS7 := Lib.hid (HS6.out.step hf); clear hf hn))
                  go_roundw
                  case rel => exact ⟨j + 1, by omega, by go_num, HS7⟩
                  case measure => (simp [intOf]; try omega)
                · have j1 : ¬ (j : Int) < 6 := by omega
                  clear hj6 hj
                  have HSD := Lib.hid (hT.out.step (Fr.refl [] wr).drew)
                  have HHD := Lib.hid (lf_head wr.drew w.heap.size b d5 HSD.out.disk HSD.out.okd)
                  have hhd : x5.head = d5.head := by obtain ⟨c, hc⟩ := HR5.out; exact hc.head
                  rw [← hhd] at HHD
                  clear hhd
                  have HQ := Lib.hid (fun W (hW : Fr [] wr W) => (hT.out.step hW).cells)
                  go_wp2_with fail
                  (refine wp_region_mix (Fr [] wr ·) 4 [(true, 0), (true, 2), (true, 3), (false, 1)] (by kernel_rfl) (by kernel_rfl) ((Fr.refl _ _).drew) ?_; simp only [pickOps, List.map_cons, List.map_nil, List.getD_cons_zero, List.getD_cons_succ, List.drop_succ_cons, List.drop_zero])
                  (iterate 3 (first | (refine wpMix_take (v := ?_) (by rfl) ?_ ?_; rotate_left; (focus (intro W hW; obtain ⟨⟨X0, X1, X2, X3, X4, X5⟩, hfz⟩ := HQ.out W hW; go_simp; (try with_reducible rfl); done)); try simp only [Act.put, List.setIfInBounds_toArray, List.set_cons_zero, List.set_cons_succ]) | (refine wpMix_leave (by rfl) ?_; try simp only [Act.put, List.setIfInBounds_toArray, List.set_cons_zero, List.set_cons_succ])))
                  refine wpMix_walk ?_
                  go_wp2_with (go_at_call 17; (with_reducible refine useC HHD.out ?_); rintro e w9 ⟨rfl, rfl⟩)
                  refine MixQ.mk ((Fr.refl _ _).drew) ?_
                  refine wpMix_nil ?_
                  go_wp2
                  go_roundw
                  case rel => exact ⟨k + 1, by omega, by omega, by go_num, _, _, _, _, _, _, _, _, _, _, _, _, _, _, _, _, _, HSD, HR5⟩
                  case measure => (simp [intOf]; try omega)
    · have hout : ¬ (k : Int) < ls.length ∨ ((k : Int) < ls.length ∧ ¬ (k : Int) < 80) := by omega
      have HSA := Lib.hid (lf_segment wr w.heap.size b d (-1) hS.out.disk hS.out.okd)
      have HRA := Lib.hid (fun W (hW : Fr [] wr W) => lf_read W w.heap.size b d 8 (hS.out.step hW).disk hS.out.okd)
      rw [show segAns d (-1) = .tuple #[.int .i64 0, .int .i64 0] from if_neg (by decide)] at HSA
      rw [show readAns d 8 = .tuple #[.int .i64 0, .iface 70 (.int .i64 1)] from if_neg (by decide)] at HRA
      have HER := Lib.hid (fun W (hW : Fr [] w W) => error_at 1 1 W (HE.out W hW))
      clear hin
      rcases hout with hout | ⟨hout, hout'⟩
      all_goals
        go_wp2_with (first
          | (go_at_call 15; (with_reducible refine useC HSA.out ?_); rintro e w6 ⟨rfl, hf⟩; have HF6 := Lib.hid hf; clear hf)
          | (go_at_call 13; (with_reducible refine useC (HRA.out w6 HF6.out) ?_); rintro e w7 ⟨rfl, hf⟩; have HF7 : Hid (Fr [] w w7) := hS.out.fr.trans (HF6.out.trans hf); clear hf)
          | (go_at_call 9; (with_reducible refine useC (HER.out w7 HF7.out) ?_); rintro e w8 ⟨rfl, hf⟩; have HF8 : Hid (Fr [] w w8) := HF7.out.trans hf; clear hf))
        go_ret
        exact ⟨rfl, HF8.out⟩
end Go.Proofs.YtbedfffmicbgmaaDoor
