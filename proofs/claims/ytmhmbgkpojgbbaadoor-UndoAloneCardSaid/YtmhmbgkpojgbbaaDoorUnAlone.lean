/- UndoAlone: two turns do not write one block. -/
import Derived.Test.YtmhmbgkpojgbbaaDoorUnLaw
import Derived.Test.YtmhmbgkpojgbbaaDoorCIn2
import Derived.Test.YtmhmbgkpojgbbaaDoorErr2
namespace Go.Proofs.YtmhmbgkpojgbbaaDoor
open Go.RowKit

namespace Un
theorem write_len (d : D) (t b v : Int) : (write d t b v).was.length ≤ d.was.length + 1 := by
  unfold write
  split
  · show (d.was ++ [_]).length ≤ _
    simp
  · omega
theorem write_busy {d : D} (h : OK d) {t b v : Int} (hw : wrErr d t b v = 0) : nth (write d t b v).busy b.toNat = t := by
  obtain ⟨h1, h2, -, -, -⟩ := wrErr_zero hw
  unfold write
  rw [if_pos hw]
  show nth (d.busy.set b.toNat t) b.toNat = t
  rw [nth_set _ _ _ _ (by rw [h.busy]; omega), if_pos rfl]
theorem alone1 {d : D} (h : OK d) {t b v : Int} (hw : wrErr d t b v = 0) : busyAt (write d t b v) b = t := by
  obtain ⟨h1, h2, -, -, -⟩ := wrErr_zero hw
  unfold busyAt
  rw [if_pos h2]
  exact write_busy h hw
theorem alone2 {d : D} (h : OK d) {t b v : Int} (hw : wrErr d t b v = 0) (hl : d.was.length ≤ 40) : wrErr (write d t b v) t b v = 0 := by
  have hb := write_busy h hw
  have hn := write_len d t b v
  obtain ⟨h1, h2, h3, -, -⟩ := wrErr_zero hw
  unfold wrErr
  rw [if_pos h1, if_pos ⟨h2, h3⟩, if_neg (by unfold clash; rw [hb]; omega), if_neg (by omega)]
theorem alone3 {d : D} {u b v : Int} (hu : ¬ okT u) : wrErr d u b v = 1 := by
  unfold wrErr
  rw [if_neg hu]
theorem alone4 {d : D} (h : OK d) {t u b v : Int} (hw : wrErr d t b v = 0) (hu : okT u) (hn : t ≠ u) : wrErr (write d t b v) u b v = 6 := by
  have hb := write_busy h hw
  obtain ⟨h1, h2, h3, -, -⟩ := wrErr_zero hw
  unfold wrErr
  unfold okT at h1
  rw [if_pos hu, if_pos ⟨h2, h3⟩, if_pos (by unfold clash; rw [hb]; omega)]
theorem alone5 {d : D} (h : OK d) {t u b v : Int} (hw : wrErr d t b v = 0) (hl : d.was.length ≤ 40) (hu : okT u) : wrErr (end_ (write d t b v) t) u b v = 0 := by
  have hb := write_busy h hw
  have hn := write_len d t b v
  have hO := write_ok h t b v
  obtain ⟨h1, h2, h3, -, -⟩ := wrErr_zero hw
  generalize write d t b v = d1 at *
  unfold end_
  rw [if_pos h1]
  have hlf : (d1.was.filter (stay t)).length ≤ d1.was.length := List.length_filter_le _ _
  have hbf : nth (leave d1 t).busy b.toNat = -1 := by
    show nth (free t d1.busy) b.toNat = -1
    rw [nth_free _ _ _ (by rw [hO.busy]; omega), if_pos hb]
  unfold wrErr
  rw [if_pos hu, if_pos ⟨h2, h3⟩, if_neg (by unfold clash; rw [hbf]; omega), if_neg (by show (d1.was.filter (stay t)).length ≠ 60; omega)]
theorem write_err {d : D} {t b v : Int} (h : wrErr d t b v ≠ 0) : write d t b v = d := by
  unfold write
  rw [if_neg h]
end Un
theorem error_six (w : World) (hg : ErrType w) : Calls Tryd.prog 12 #[.iface 73 (.int .i64 6), .int .i64 6] w (OkT w) := error_yes 6 w hg
theorem error_one1 (w : World) (hg : ErrType w) : Calls Tryd.prog 12 #[.iface 73 (.int .i64 1), .int .i64 1] w (OkT w) := error_yes 1 w hg
/-- The disk in the loop: not many records. -/
def UnAl (w wr : World) (b k : Nat) : Prop := ∃ P d, UnS w wr P b d ∧ d.was.length ≤ k
set_option maxRecDepth 100000 in
set_option maxHeartbeats 8000000 in
theorem un_alone (w : World) (v : Value) (ls : List (List Int)) (ta tb bk x : Int) (hR : Rw w.heap.size w v ls) (hE : ErrType w) (hpos : 0 < w.heap.size) :
    Calls Tryd.prog 4 #[v, .int .i64 ta, .int .i64 tb, .int .i64 bk, .int .i64 x] w (OkT w) := by
  obtain ⟨A, g, o, cc, rfl, hm, hF⟩ := hR
  have HF := Lib.hid hF
  have HN := Lib.hid (fun W => un_New W)
  have HER := Lib.hid (fun W (h : Fr [] w W) => hE.fr h (by simp))
  clear hF hE
  go_enter Tryd.func4, Tryd.ntmps4
  go_wp2_with (first
    | (go_at_call 18; (with_reducible refine useC (un_fact w) ?_); rintro e w1 ⟨rfl, hf⟩; have HF1 := Lib.hid hf; clear hf)
    | (go_at_call 19; (with_reducible refine useC (HN.out w1) ?_); rintro e w2 ⟨b, rfl, hs, hf⟩; have HS2 : Hid (UnAl w w2 b 0) := ⟨_, _, UnS.made HF1.out hs hf, Nat.le_refl _⟩; clear hs hf))
  go_loopw [13] (fun i wr => ∃ k : Nat, k ≤ ls.length ∧ k ≤ 40 ∧ i = .int .i64 k ∧ Hid (UnAl w wr b k)) (fun i _ => 40 - (intOf i).toNat)
  case atStart => exact ⟨0, Nat.zero_le _, Nat.zero_le _, rfl, HS2⟩
  case round =>
    clear HS2
    obtain ⟨k, hk, hk8, rfl, hS⟩ := hrel
    by_cases hin : k < ls.length ∧ k < 40
    · obtain ⟨hlt, h80⟩ := hin
      obtain ⟨P, d, hS1, hln⟩ := hS.out
      obtain ⟨rfl, hg⟩ := HF.out.1 (by omega)
      obtain ⟨u, kb, hcell, hkb, hsl, _⟩ := (HF.out.below (hS1.fr.toBelow (Nat.le_refl _) (by simp))).2 k hlt
      obtain ⟨A', o', c', rfl, hm', hA', hc'⟩ := hsl.form
      have i0 : (0 : Int) ≤ k := by omega
      have i1 : (k : Int) < ls.length := by omega
      have i4 : (k : Int) < 40 := by omega
      have HSD := Lib.hid (hS1.step ((Fr.refl [] wr).drew))
      have HLN := Lib.hid hln
      have HS1 := Lib.hid hS1
      clear hsl hS hS1 hln
      by_cases hl3 : (nthR ls k).length = 3
      · obtain rfl := hA' (by omega)
        have c0 := hc' 0 (by omega)
        have c1 := hc' 1 (by omega)
        have c2 := hc' 2 (by omega)
        rw [Nat.add_zero] at c0
        rw [hl3] at hcell
        clear hc' hA' hl3 hkb
        generalize nth (nthR ls k) 0 = x0 at *
        generalize nth (nthR ls k) 1 = x1 at *
        generalize nth (nthR ls k) 2 = x2 at *
        have HC := Lib.hid (un_Write wr.drew P b d x0 x1 x2 HSD.out.file)
        have HW := Lib.hid (Un.write_len d x0 x1 x2)
        go_wp2
        (refine wp_region_mixq 11 [(true, 0), (true, 1), (true, 2), (true, 3), (true, 4), (true, 5), (true, 6), (true, 7), (true, 8), (true, 9), (true, 10)] (by kernel_rfl) (by kernel_rfl) ?_; simp only [pickOps, List.map_cons, List.map_nil, List.getD_cons_zero, List.getD_cons_succ, List.drop_succ_cons, List.drop_zero]; (iterate 11 (first | (refine wpMix_take (v := ?_) (by rfl) ?_ ?_; rotate_left; (focus (intro W hW; subst hW; go_simp; (try with_reducible rfl); done)); try simp only [Act.put, List.setIfInBounds_toArray, List.set_cons_zero, List.set_cons_succ]) | (refine wpMix_leave (by rfl) ?_; try simp only [Act.put, List.setIfInBounds_toArray, List.set_cons_zero, List.set_cons_succ]))); refine wpMix_nil ?_)
        go_wp2_with (go_at_call 20; (with_reducible refine useC HC.out ?_); rintro e w4 ha; obtain ⟨rfl, hs, -⟩ := HSD.out.turn ha; have H4 := Lib.hid hs; clear ha hs)
        go_roundw
        case rel => exact ⟨k + 1, by omega, by omega, by go_num, _, _, H4.out, by have := HW.out; have := HLN.out; omega⟩
        case measure => simp [intOf]; omega
      · have b3 : (((nthR ls k).length : Int) == 3) = false := beq_eq_false_iff_ne.2 (by omega)
        clear hc' hA' hl3 hkb
        go_wp2
        go_roundw
        case rel => exact ⟨k + 1, by omega, by omega, by go_num, _, _, HS1.out, by have := HLN.out; omega⟩
        case measure => simp [intOf]; omega
    · have hout : ¬ (k : Int) < ls.length ∨ ((k : Int) < ls.length ∧ ¬ (k : Int) < 40) := by omega
      obtain ⟨P, d, hS1, hln⟩ := hS.out
      have hl40 : d.was.length ≤ 40 := by omega
      have hO := hS1.ok
      have HS1 := Lib.hid hS1
      have HC1 := Lib.hid (un_Write wr P b d ta bk x hS1.file)
      unfold UnWr at HC1
      clear hS hS1 HF hln
      by_cases hw : Un.wrErr d ta bk x = 0
      · have h1 := Un.alone1 hO hw
        rw [hw, show errV 0 = .nilIface from rfl] at HC1
        have HCW := Lib.hid (fun W P (h : UnF P W b (Un.write d ta bk x)) => un_Write W P b _ tb bk x h)
        unfold UnWr at HCW
        by_cases hab : ta = tb
        · subst hab
          have e1 : (ta == ta) = true := beq_self_eq_true _
          rw [Un.alone2 hO hw hl40, show errV 0 = .nilIface from rfl] at HCW
          have HB1 := Lib.hid h1
          clear hw h1 hO hl40
          generalize Un.write d ta bk x = d1 at *
          generalize Un.write d1 ta bk x = d2 at *
          rcases hout with hout | ⟨hout, hout'⟩
          all_goals
            go_wp2_with (first
              | (go_at_call 20; (with_reducible refine useC HC1.out ?_); rintro e w4 ha; obtain ⟨rfl, hs, -⟩ := HS1.out.turn ha; obtain ⟨P4, H4⟩ : ∃ P, Hid (UnS w w4 P b d1) := ⟨_, hs⟩; have HBY := Lib.hid (un_Busy w4 P4 b d1 bk H4.out.file); rw [HB1.out] at HBY; have HC4 := Lib.hid (HCW.out w4 P4 H4.out.file); clear ha hs)
              | (go_at_call 21; (with_reducible refine useC HBY.out ?_); rintro e w5 ⟨rfl, rfl⟩)
              | (go_at_call 20; (with_reducible refine useC HC4.out ?_); rintro e w6 ha; obtain ⟨rfl, hs, -⟩ := H4.out.turn ha; have H6 := Lib.hid hs; clear ha hs))
            go_ret
            exact ⟨rfl, H6.out.fr⟩
        · have e1 : (ta == tb) = false := by simpa using hab
          by_cases hb : Un.okT tb
          · have e2 : decide (0 ≤ tb ∧ tb ≤ 19) = true := decide_eq_true hb
            have e6 := Un.alone4 hO hw hb hab
            have hwr : Un.write (Un.write d ta bk x) tb bk x = Un.write d ta bk x := Un.write_err (by rw [e6]; decide)
            rw [e6, hwr, show errV 6 = .iface 73 (.int .i64 6) from rfl] at HCW
            have e5 := Un.alone5 hO hw hl40 hb
            have hO2 : Un.OK (Un.end_ (Un.write d ta bk x) ta) := Un.end_ok (Un.write_ok hO ta bk x) ta
            have e7 := Un.alone1 hO2 e5
            have et : Un.turnErr ta = 0 := if_pos (Un.wrErr_zero hw).1
            have HEN := Lib.hid (fun W P (h : UnF P W b (Un.write d ta bk x)) => un_End W P b _ ta h)
            rw [et, show errV 0 = .nilIface from rfl] at HEN
            have HCX := Lib.hid (fun W P (h : UnF P W b (Un.end_ (Un.write d ta bk x) ta)) => un_Write W P b _ tb bk x h)
            unfold UnWr at HCX
            rw [e5, show errV 0 = .nilIface from rfl] at HCX
            have HB1 := Lib.hid h1
            have HB7 := Lib.hid e7
            clear hw h1 hO hl40 e6 hwr e5 hO2 e7 et hb hab
            generalize Un.write d ta bk x = d1 at *
            generalize Un.end_ d1 ta = d2 at *
            generalize Un.write d2 tb bk x = d3 at *
            rcases hout with hout | ⟨hout, hout'⟩
            all_goals
              go_wp2_with (first
                | (go_at_call 20; (with_reducible refine useC HC1.out ?_); rintro e w4 ha; obtain ⟨rfl, hs, -⟩ := HS1.out.turn ha; obtain ⟨P4, H4⟩ : ∃ P, Hid (UnS w w4 P b d1) := ⟨_, hs⟩; have HBY := Lib.hid (un_Busy w4 P4 b d1 bk H4.out.file); rw [HB1.out] at HBY; have HC4 := Lib.hid (HCW.out w4 P4 H4.out.file); clear ha hs)
                | (go_at_call 21; (with_reducible refine useC HBY.out ?_); rintro e w5 ⟨rfl, rfl⟩)
                | (go_at_call 20; (with_reducible refine useC HC4.out ?_); rintro e w6 ha; obtain ⟨rfl, hs, -⟩ := H4.out.turn ha; obtain ⟨P6, H6⟩ : ∃ P, Hid (UnS w w6 P b d1) := ⟨_, hs⟩; clear ha hs)
                | (go_at_call 22; (with_reducible refine useC (in2_is tb _ _ true _ e2) ?_); rintro e w7 ⟨rfl, rfl⟩)
                | (go_at_call 12; (with_reducible refine useC (error_six _ (HER.out _ H6.out.fr)) ?_); rintro e w8 ⟨rfl, hf⟩; have H8 := Lib.hid (H6.out.step hf); have HC8 := Lib.hid (HEN.out w8 P6 H8.out.file); clear hf)
                | (go_at_call 23; (with_reducible refine useC HC8.out ?_); rintro e w9 ha; obtain ⟨rfl, hs, -⟩ := H8.out.turn ha; obtain ⟨P9, H9⟩ : ∃ P, Hid (UnS w w9 P b d2) := ⟨_, hs⟩; have HC9 := Lib.hid (HCX.out w9 P9 H9.out.file); clear ha hs)
                | (go_at_call 20; (with_reducible refine useC HC9.out ?_); rintro e w10 ha; obtain ⟨rfl, hs, -⟩ := H9.out.turn ha; obtain ⟨P10, H10⟩ : ∃ P, Hid (UnS w w10 P b d3) := ⟨_, hs⟩; have HB10 := Lib.hid (un_Busy w10 P10 b d3 bk H10.out.file); rw [HB7.out] at HB10; clear ha hs)
                | (go_at_call 21; (with_reducible refine useC HB10.out ?_); rintro e w11 ⟨rfl, rfl⟩))
              go_ret
              exact ⟨rfl, H10.out.fr⟩
          · have e2 : decide (0 ≤ tb ∧ tb ≤ 19) = false := decide_eq_false hb
            rw [Un.alone3 hb, show errV 1 = .iface 73 (.int .i64 1) from rfl] at HCW
            have HB1 := Lib.hid h1
            clear hw h1 hO hl40 hb hab
            generalize Un.write d ta bk x = d1 at *
            generalize Un.write d1 tb bk x = d2 at *
            rcases hout with hout | ⟨hout, hout'⟩
            all_goals
              go_wp2_with (first
                | (go_at_call 20; (with_reducible refine useC HC1.out ?_); rintro e w4 ha; obtain ⟨rfl, hs, -⟩ := HS1.out.turn ha; obtain ⟨P4, H4⟩ : ∃ P, Hid (UnS w w4 P b d1) := ⟨_, hs⟩; have HBY := Lib.hid (un_Busy w4 P4 b d1 bk H4.out.file); rw [HB1.out] at HBY; have HC4 := Lib.hid (HCW.out w4 P4 H4.out.file); clear ha hs)
                | (go_at_call 21; (with_reducible refine useC HBY.out ?_); rintro e w5 ⟨rfl, rfl⟩)
                | (go_at_call 20; (with_reducible refine useC HC4.out ?_); rintro e w6 ha; obtain ⟨rfl, hs, -⟩ := H4.out.turn ha; obtain ⟨P6, H6⟩ : ∃ P, Hid (UnS w w6 P b d2) := ⟨_, hs⟩; clear ha hs)
                | (go_at_call 22; (with_reducible refine useC (in2_is tb _ _ false _ e2) ?_); rintro e w7 ⟨rfl, rfl⟩)
                | (go_at_call 12; (with_reducible refine useC (error_one1 _ (HER.out _ H6.out.fr)) ?_); rintro e w8 ⟨rfl, hf⟩; have H8 := Lib.hid (H6.out.step hf); clear hf))
              go_ret
              exact ⟨rfl, H8.out.fr⟩
      · rw [errV_no hw] at HC1
        clear hw hO hl40
        generalize Un.wrErr d ta bk x = er at *
        rcases hout with hout | ⟨hout, hout'⟩
        all_goals
          go_wp2_with (go_at_call 20; (with_reducible refine useC HC1.out ?_); rintro e w4 ha; obtain ⟨rfl, hs, -⟩ := HS1.out.turn ha; have H4 := Lib.hid hs; clear ha hs)
          go_ret
          exact ⟨rfl, H4.out.fr⟩
end Go.Proofs.YtmhmbgkpojgbbaaDoor
